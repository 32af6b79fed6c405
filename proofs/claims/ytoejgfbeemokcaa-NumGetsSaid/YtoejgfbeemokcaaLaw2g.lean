import Derived.Test.YtoejgfbeemokcaaGet2
import Derived.Test.YtoejgfbeemokcaaLaw1b
namespace Go.Proofs.Ytoejgfbeemokcaa
open Go.RowKit

set_option maxRecDepth 100000 in
set_option maxHeartbeats 1000000 in
theorem law_NumGets (a : Option Addr) (len cap : Nat) (z : List Int) {w : World} (hrow : IsRow .u8 w a len cap z) (less : Int) (wl : (Lit.int .u8 less).wf = true) :
    Calls Try.prog 16 #[.slice a len cap, .int .u8 less] w fun e w' => e = .returned (.bool true) ∧ Below w.heap.size w w' := by
  have hl0 := (wf_u8 wl).1
  have hl1 := (wf_u8 wl).2
  clear wl
  obtain ⟨bs, hbl, hb, hrd⟩ := hrow.bytes
  subst hbl
  clear hrow
  have H := Sep.start w
  have hreads : Reads [HP.old w.heap.size w] (.slice a bs.length cap) bs.length 1 (bs.map u8v) := Reads.old hrd
  have HRD := Lib.hid hreads
  clear hreads hrd
  have HBB := Lib.hid hb
  clear hb
  generalize hB : HP.old w.heap.size w = O at H HRD
  have HB := Lib.hid hB; clear hB
  by_cases hfew : 40 < bs.length
  · go_enter Try.func16, Try.ntmps16
    go_wp2_with fail
    refine (awake2 H).mono ?_
    rintro e w1 ⟨rfl, H1⟩
    go_wp2_with fail
    go_ret
    subst HB
    exact ⟨rfl, H1.below⟩
  have hlenI : (bs.length : Int) ≤ 40 := by omega
  have HTX := Lib.hid (fun (w1 : World) (h : RdS w1 (.slice a bs.length cap) bs.length 1 (bs.map u8v)) => text_calls hl0 hl1 HBB.out (by omega) h)
  have hTl : (textOf bs less).length ≤ 320 := by rw [textOf_length]; omega
  generalize textOf bs less = T at HTX hTl
  have HTL := Lib.hid hTl
  have hTI : (T.length : Int) ≤ 320 := by omega
  have HNG := Lib.hid (fun (q : Nat) (R : List HP) (w1 : World) (h : Sep w1 (Rdr q T 0 :: R)) => nget_all (i := 0) (Nat.zero_le _) (by omega) h)
  have HRG := Lib.hid (fun (w1 : World) => rget2_calls (l := T) (by omega) (w := w1))
  have hsz := bitStr_size T
  have hms := getN_size T
  clear hTl hl0 hl1
  go_enter Try.func16, Try.ntmps16
  go_wp2_with fail
  refine (awake2 H).mono ?_
  rintro e w1 ⟨rfl, H1⟩
  clear H
  go_wp2_with fail
  refine (HTX.out _ (HRD.out _ H1)).mono ?_
  rintro e w2 ⟨rfl, rfl⟩
  go_wp2_with fail
  refine (reader_calls (by have := HTL.out; omega) H1).mono ?_
  rintro e w2 ⟨r, rfl, q, rfl, H2⟩
  clear H1
  go_wp2_with fail
  refine (HNG.out _ _ _ H2).mono ?_
  rintro e w3 ⟨rfl, j, j1, j2, H3⟩
  clear H2
  have J2 := Lib.hid j2
  clear j2
  rw [List.drop_zero] at J2 ⊢
  go_wp2_with fail
  refine (HRG.out _).mono ?_
  rintro e w4 ⟨rfl, rfl⟩
  clear HNG HRG HTX
  generalize getN T = V at *
  obtain ⟨v, m, f⟩ := V
  by_cases cf : f = 0
  · subst cf
    have hj : j = m := by have h := J2.out rfl; rw [Nat.zero_add] at h; exact h
    subst hj
    clear J2
    go_wp2_with fail
    refine (left_ok j1 (by have := HTL.out; omega) H3).mono ?_
    rintro e w4 ⟨rfl, n1, rfl⟩
    go_wp2_with fail
    go_ret
    subst HB
    exact ⟨rfl, (H3.drewN n1).tail.below⟩
  · clear J2
    go_wp2_with fail
    go_ret
    subst HB
    exact ⟨rfl, H3.tail.below⟩

end Go.Proofs.Ytoejgfbeemokcaa
