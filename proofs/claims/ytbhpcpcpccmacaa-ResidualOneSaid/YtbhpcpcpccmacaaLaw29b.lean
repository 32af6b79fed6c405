/- Law 29: ResidualOne. -/
import Derived.Test.YtbhpcpcpccmacaaRes15
namespace Go.Proofs.Ytbhpcpcpccmacaa
open Go.RowKit Go.Shelf

set_option maxRecDepth 100000 in
set_option maxHeartbeats 8000000 in
theorem law_ResidualOne (ba : Option Addr) (bl bc : Nat) (zb : List Int) {w : World} (hzb : IsRow .u8 w ba bl bc zb) (n : Int) (_wn : (Lit.int .i64 n).wf = true) :
    Calls Try.prog 16 #[.slice ba bl bc, .int .i64 n] w fun e w' => e = .returned (.bool true) ∧ Below w.heap.size w w' := by
  have hcap : bl ≤ bc := hzb.fits _ _ _ rfl
  obtain ⟨b, rfl, hlt, hrb⟩ := hzb.bytes
  have hrb : Reads [HP.old w.heap.size w] (.slice ba b.length bc) b.length 1 (b.map bv) := Reads.old hrb
  clear hzb _wn
  have H := Sep.start w
  generalize hB : HP.old w.heap.size w = O at H hrb
  have HB := Lib.hid hB; clear hB
  have HLT := Lib.hid hlt
  clear hlt
  by_cases hg1 : 240 < b.length
  · have hgi : (240 : Int) < (b.length : Int) := by omega
    go_enter Try.func16, Try.ntmps16
    go_wp2_with fail
    refine (awake29 H).mono ?_
    rintro e w1 ⟨rfl, H1⟩
    clear H
    go_wp2_with fail
    refine (awake29 H1).mono ?_
    rintro e w2 ⟨rfl, H2⟩
    go_wp2_with fail
    go_ret
    subst HB
    exact ⟨rfl, H2.below⟩
  have hgi : ¬ (240 : Int) < (b.length : Int) := by omega
  by_cases hn1 : n < 0
  · have hn2 : ¬ 60 < n := by omega
    go_enter Try.func16, Try.ntmps16
    go_wp2_with fail
    refine (awake29 H).mono ?_
    rintro e w1 ⟨rfl, H1⟩
    clear H
    have D := rdecode_bad (a := ba) (m := b.length) (cap := bc) (n := n) (.inl hn1) (w := w1)
    go_wp2_with fail
    refine D.mono ?_
    rintro _ _ ⟨rfl, rfl⟩
    go_wp2_with fail
    go_ret
    subst HB
    exact ⟨by simp, H1.below⟩
  by_cases hn2 : 4096 < n
  · have hn3 : 60 < n := by omega
    have hn4 : ¬ n ≤ 4096 := by omega
    go_enter Try.func16, Try.ntmps16
    go_wp2_with fail
    refine (awake29 H).mono ?_
    rintro e w1 ⟨rfl, H1⟩
    clear H
    have D := rdecode_bad (a := ba) (m := b.length) (cap := bc) (n := n) (.inr hn2) (w := w1)
    go_wp2_with fail
    refine D.mono ?_
    rintro _ _ ⟨rfl, rfl⟩
    go_wp2_with fail
    go_ret
    subst HB
    exact ⟨by simp, H1.below⟩
  by_cases hn3 : 60 < n
  · have hn4 : n ≤ 4096 := by omega
    go_enter Try.func16, Try.ntmps16
    go_wp2_with fail
    refine (awake29 H).mono ?_
    rintro e w1 ⟨rfl, H1⟩
    clear H
    go_wp2_with fail
    refine (awake29 H1).mono ?_
    rintro e w2 ⟨rfl, H2⟩
    go_wp2_with fail
    go_ret
    subst HB
    exact ⟨rfl, H2.below⟩
  obtain ⟨N, rfl⟩ := Int.eq_ofNat_of_zero_le (show 0 ≤ n by omega)
  have DC := Lib.hid fun (w' : World) (h : Sep w' [O]) => rdecode_calls (n := N) (by omega) hcap HLT.out (by omega) hrb h
  go_enter Try.func16, Try.ntmps16
  go_wp2_with fail
  refine (awake29 H).mono ?_
  rintro e w1 ⟨rfl, H1⟩
  clear H
  go_wp2_with fail
  refine (DC.out _ H1).mono ?_
  rintro _ w2 ⟨_, rfl, ⟨out, x, y, hf, hl, hb, -, rfl, H2⟩ | ⟨hno, rfl, H2⟩⟩
  · have EC := rencode_calls (v := .slice x N y) (n := N) (xs := out) (fun z hz => by have := hf z hz; omega) Reads.row H2
    have HFI := Lib.hid hf
    have HBB := Lib.hid hb
    clear DC hf hl hb
    go_wp2_with fail
    refine EC.mono ?_
    rintro _ w3 ⟨_, rfl, ⟨hf, -, -⟩ | ⟨-, ea, ec, rfl, H3⟩⟩
    · exact absurd (rfit_ok (by omega) HFI.out) hf
    rw [HBB.out] at H3 ⊢
    have hbq := baD_toList_beq HLT.out HLT.out
    rw [decide_eq_true rfl] at hbq
    have c1 := conv_bytes H3.rd
    have c2 := conv_bytes (hrb _ H3.tail.tail)
    clear EC H2
    go_wp2_with fail
    go_ret
    subst HB
    exact ⟨by simp, H3.tail.tail.below⟩
  · clear DC hno
    go_wp2_with fail
    go_ret
    subst HB
    exact ⟨by simp, H2.below⟩

end Go.Proofs.Ytbhpcpcpccmacaa
