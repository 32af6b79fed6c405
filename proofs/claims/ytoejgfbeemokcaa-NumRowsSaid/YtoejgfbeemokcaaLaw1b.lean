import Derived.Test.YtoejgfbeemokcaaLaw1
import Derived.Test.YtoejgfbeemokcaaNr
import Derived.Deep.LoopGhost
namespace Go.Proofs.Ytoejgfbeemokcaa
open Go.RowKit

theorem take_bit (l : List Bool) (i : Nat) (h : i < l.length) : l.take (i + 1) = l.take i ++ [l.getD i false] := by
  rw [List.take_succ_eq_append_getElem h]
  simp [List.getD, List.getElem?_eq_getElem h]

set_option maxRecDepth 100000 in
set_option maxHeartbeats 2000000 in
theorem law_BitsOne (a : Option Addr) (len cap : Nat) (z : List Int) {w : World} (hrow : IsRow .u8 w a len cap z) (m : Int) (wm : (Lit.int .u16 m).wf = true) :
    Calls Try.prog 12 #[.slice a len cap, .int .u16 m] w fun e w' => e = .returned (.bool true) ∧ Below w.heap.size w w' := by
  have hm := wf_u16 wm
  have hm0 : 0 ≤ m := hm.1
  have hm1 : m ≤ 65535 := hm.2
  obtain ⟨bs, hbl, hb, hrd⟩ := hrow.bytes
  subst hbl
  clear hm wm hrow
  have H := Sep.start w
  have hreads : Reads [HP.old w.heap.size w] (.slice a bs.length cap) bs.length 1 (bs.map u8v) := Reads.old hrd
  have HRD := Lib.hid hreads
  clear hreads hrd
  generalize hB : HP.old w.heap.size w = O at H HRD
  have HB := Lib.hid hB; clear hB
  by_cases hfew : 120 < bs.length
  · have hf : (120 : Int) < (bs.length : Int) := by omega
    go_enter Try.func12, Try.ntmps12
    go_wp2_with fail
    refine (awake1 H).mono ?_
    rintro e w1 ⟨rfl, H1⟩
    clear H
    go_wp2_with fail
    refine (awake1 H1).mono ?_
    rintro e w2 ⟨rfl, H2⟩
    go_wp2_with fail
    go_ret
    subst HB
    exact ⟨rfl, H2.below⟩
  · have hf : (bs.length : Int) ≤ 120 := by omega
    go_enter Try.func12, Try.ntmps12
    go_wp2_with fail
    refine (awake1 H).mono ?_
    rintro e w1 ⟨rfl, H1⟩
    clear H
    go_wp2_with fail
    have hmn : 0 ≤ m % 969 ∧ m % 969 < 969 := by omega
    generalize m % 969 = n at hmn ⊢
    have hn0 : 0 ≤ n := hmn.1
    have hn1 : n < 969 := hmn.2
    clear hmn
    refine (nr_all (bs := bs) hb (HRD.out _ H1) H1).mono ?_
    rintro e w2 ⟨v, rfl, hpost⟩
    rcases hpost with ⟨hk, rfl, H2⟩ | ⟨b, l, hopen, rfl, H2⟩
    · have hk' : (((openBits bs n).1 : Int) != 0) = true := by rw [bne_iff_ne]; omega
      generalize (openBits bs n).1 = k at hk hk' ⊢
      clear hk
      go_wp2_with fail
      go_ret
      subst HB
      exact ⟨rfl, H2.below⟩
    · obtain ⟨-, -, hl1, hl2, hl3, -, -⟩ := openBits_ok hb hopen
      subst hl1
      have hlen : l.length < 969 := by omega
      have HL2 := Lib.hid hl2
      have HL3 := Lib.hid hl3
      clear hopen hl2 hl3 hb
      have H3 := Wr.new H2
      go_wp2_with fail
      generalize w2.heap.size = bw at H3 ⊢
      generalize w2.alloc (.cells #[.slice none 0 0, .int .i64 0] 26) = w3 at H3 ⊢
      clear H2
      go_loopg [9, 10] l.length (fun gk _ _ wr => ∃ k : Nat, Hid (gk = l.length - k) ∧ k ≤ l.length ∧ Sep wr (Wr bw (l.take k) :: Rdr b l k :: [O]))
      case atStart => exact ⟨0, Lib.hid (by omega), by omega, H3⟩
      case round =>
        clear H3
        obtain ⟨k, hgk, hk, Hr⟩ := hrel
        have hl32 : l.length ≤ 33554432 := by omega
        go_wp2_with fail
        refine (left_ok hk hl32 Hr.swap).mono ?_
        rintro e w4 ⟨rfl, n4, rfl⟩
        replace Hr := Hr.drewN n4
        generalize wr.drewN n4 = w4 at Hr ⊢
        by_cases hlt : k < l.length
        · have hlt1 : (0 : Int) < (l.length : Int) - (k : Int) := by omega
          have htk : (l.take k).length + 1 ≤ 33554432 := by rw [List.length_take]; omega
          go_wp2_with fail
          refine (rbit_ok hlt hl32 Hr.swap).mono ?_
          rintro e w5 ⟨rfl, H5⟩
          have htk2 := take_bit l k hlt
          generalize l.getD k false = x at htk2 ⊢
          have HTK := Lib.hid htk2; clear htk2
          go_wp2_with fail
          refine (wbit_ok htk H5.swap).mono ?_
          rintro e w6 ⟨rfl, H6⟩
          rw [← HTK.out] at H6
          clear H5 Hr htk
          go_wp2_with fail
          refine (len_calls H6).mono ?_
          rintro e w7 ⟨rfl, rfl⟩
          have hlen6 : (l.take (k + 1)).length ≤ l.length := by rw [List.length_take]; omega
          generalize (l.take (k + 1)).length = q at hlen6 ⊢
          have hq1 : ¬ (l.length : Int) < (q : Int) := by omega
          go_wp2_with fail
          go_roundg (l.length - (k + 1))
          case rel => exact ⟨k + 1, Lib.hid rfl, by omega, H6⟩
          case measure => have := hgk.out; omega
        · have hk2 : k = l.length := by omega
          subst hk2
          rw [List.take_length] at Hr
          go_wp2_with fail
          refine (len_calls Hr).mono ?_
          rintro e w7 ⟨rfl, rfl⟩
          go_wp2_with fail
          refine (bytes_ok hl32 Hr).mono ?_
          rintro e w5 ⟨v, rfl, H5⟩
          have hrd5 : RdS w5 v (pk l).length 1 ((pk l).map u8v) := H5.rd
          have hrd6 : RdS w5 (.slice a bs.length cap) bs.length 1 (bs.map u8v) := HRD.out _ H5.tail.tail.tail
          have hpl : (pk l).length ≤ 1099511627776 := by rw [pk_length]; omega
          go_wp2_with fail
          refine (same_calls hpl hrd5 hrd6).mono ?_
          rintro e w6 ⟨rfl, n6, rfl⟩
          have hd : decide (pk l = bs) = true := decide_eq_true HL2.out
          rw [hd]
          have H6 := H5.drewN n6
          generalize w5.drewN n6 = w6 at H6 ⊢
          have hfin : ((bs.length : Int) == ((l.length : Int) + 7) / 8) = true := by rw [beq_iff_eq]; have := HL3.out; omega
          clear hd hrd5 hrd6 H5 Hr
          go_wp2_with fail
          go_ret
          subst HB
          exact ⟨rfl, H6.tail.tail.tail.below⟩

end Go.Proofs.Ytoejgfbeemokcaa
