import Derived.Test.YtoejgfbeemokcaaLaw2b
namespace Go.Proofs.Ytoejgfbeemokcaa
open Go.RowKit

set_option maxHeartbeats 400000 in
theorem nget_nil {w : World} : Calls Try.prog 54 #[.pointer none] w fun e w' => e = .returned (.tuple #[.int .u64 0, .int .i64 1]) ∧ w = w' := by
  go_enter Try.func54, Try.ntmps54
  go_wp2_with fail
  go_ret2
  exact ⟨rfl, rfl⟩

set_option maxHeartbeats 1000000 in
theorem law_NumNone (n : Int) (_wn : (Lit.int .u64 n).wf = true) (v : Int) (_wv : (Lit.int .i64 v).wf = true) (b : Int) (_wb : (Lit.int .i64 b).wf = true) {w : World} :
    Calls Try.prog 17 #[.int .u64 n, .int .i64 v, .int .i64 b] w fun e w' => e = .returned (.bool true) ∧ Below w.heap.size w w' := by
  have H := Sep.start w
  generalize hB : HP.old w.heap.size w = O at H
  have HB := Lib.hid hB; clear hB
  go_enter Try.func17, Try.ntmps17
  go_wp2_with fail
  refine (awake2 H).mono ?_
  rintro e w1 ⟨rfl, H1⟩
  clear H
  go_wp2_with fail
  refine nget_nil.mono ?_
  rintro e w2 ⟨rfl, rfl⟩
  go_wp2_with fail
  refine (unfixed_nil _).mono ?_
  rintro e w2 ⟨rfl, rfl⟩
  go_wp2_with fail
  refine (nput_nil _).mono ?_
  rintro e w2 ⟨rfl, rfl⟩
  go_wp2_with fail
  refine (fixed_nil _ _).mono ?_
  rintro e w2 ⟨rfl, rfl⟩
  go_wp2_with fail
  go_ret
  subst HB
  exact ⟨rfl, H1.below⟩

theorem bitLen_step {x : Nat} (h0 : 0 < x) (h : x ≤ 9223372036854775807) : Lib.bitLen x = Lib.bitLen (x / 2) + 1 := by
  have h64 := two64
  have := Lib.bitLen_half x (by omega) (by omega)
  omega

theorem wrap_min : (Value.int IntKind.i64 (wrap64 (-9223372036854775809))) = .int .i64 ((9223372036854775807 : Nat) : Int) := by
  have h1 : wrap64 (-9223372036854775809) = 9223372036854775807 := by unfold wrap64; omega
  have h2 : ((9223372036854775807 : Nat) : Int) = 9223372036854775807 := by omega
  rw [h1, h2]

set_option maxRecDepth 100000 in
set_option maxHeartbeats 1000000 in
theorem rwidth_calls {b : Int} (h0 : -9223372036854775808 ≤ b) (h1 : b ≤ 9223372036854775807) {w : World} :
    Calls Try.prog 47 #[.int .i64 b] w fun e w' => e = .returned (.int .i64 (widthN b : Int)) ∧ w = w' := by
  by_cases hb1 : 1 ≤ b
  · obtain ⟨X, hX⟩ : ∃ X : Nat, (X : Int) = b - 1 := ⟨(b - 1).toNat, by omega⟩
    have hw : widthN b = Lib.bitLen X := by
      unfold widthN
      split
      · have : X = 0 := by omega
        rw [this, bitLen_zero]
      · rw [← hX]; rfl
    rw [hw]
    have hbx : b = (X : Int) + 1 := by omega
    subst hbx
    have hX1 : (X : Int) ≤ 9223372036854775806 := by omega
    clear hX hw
    go_enter Try.func47, Try.ntmps47
    go_wp2_with fail
    go_loopg [3, 4] X (fun gk kk x wr => wr = w ∧ ∃ k y : Nat, Hid (gk = y) ∧ (y : Int) ≤ 9223372036854775806 ∧ k ≤ 63 ∧ Hid (k + Lib.bitLen y = Lib.bitLen X) ∧ kk = .int .i64 (k : Int) ∧ x = .int .i64 (y : Int))
    case atStart => exact ⟨rfl, 0, X, Lib.hid rfl, hX1, by omega, Lib.hid (by omega), rfl, rfl⟩
    case round =>
      obtain ⟨rfl, k, y, hgk, hy, hk, hsum, rfl, rfl⟩ := hrel
      by_cases hy0 : 0 < y
      · have hy0' : (0 : Int) < (y : Int) := by omega
        have hst := bitLen_step hy0 (by omega)
        have hk2 : k + 1 ≤ 63 := by
          have h63 : (2 : Nat) ^ 63 = 9223372036854775808 := by decide +kernel
          have := bitLen_le (x := X) (k := 63) (by omega) (by omega)
          have := hsum.out
          omega
        have HST := Lib.hid hst
        clear hst
        go_wp2_with fail
        go_roundg (y / 2)
        case rel => exact ⟨rfl, k + 1, y / 2, Lib.hid rfl, by omega, hk2, Lib.hid (by have := hsum.out; have := HST.out; omega), by go_num, by go_num⟩
        case measure => have := hgk.out; omega
      · obtain rfl : y = 0 := by omega
        have hfin : k = Lib.bitLen X := by have := hsum.out; rw [bitLen_zero] at this; omega
        have HF := Lib.hid hfin
        clear hfin hy hk hsum hgk h0 h1 hX1 hb1
        go_wp2_with fail
        go_ret
        exact ⟨ret_i64 (by rw [HF.out]), rfl⟩
  · have hw : widthN b = 0 := by unfold widthN; rw [if_pos (by omega)]
    rw [hw]
    have hb2 : b < 1 := by omega
    clear hw hb1
    by_cases hmin : b = -9223372036854775808
    · subst hmin
      go_enter Try.func47, Try.ntmps47
      go_wp2_with fail
      go_loopg [3, 4] 9223372036854775807 (fun gk kk x wr => wr = w ∧ ∃ k y : Nat, Hid (gk = y) ∧ (y : Int) ≤ 9223372036854775807 ∧ k ≤ 63 ∧ Hid (k + Lib.bitLen y = 63) ∧ kk = .int .i64 (k : Int) ∧ x = .int .i64 (y : Int))
      case atStart => exact ⟨rfl, 0, 9223372036854775807, Lib.hid rfl, by omega, by omega, Lib.hid (by decide +kernel), rfl, wrap_min⟩
      case round =>
        obtain ⟨rfl, k, y, hgk, hy, hk, hsum, rfl, rfl⟩ := hrel
        by_cases hy0 : 0 < y
        · have hy0' : (0 : Int) < (y : Int) := by omega
          have hst := bitLen_step hy0 (by omega)
          have hk2 : k + 1 ≤ 63 := by have := hsum.out; omega
          have HST := Lib.hid hst
          clear hst
          go_wp2_with fail
          go_roundg (y / 2)
          case rel => exact ⟨rfl, k + 1, y / 2, Lib.hid rfl, by omega, hk2, Lib.hid (by have := hsum.out; have := HST.out; omega), by go_num, by go_num⟩
          case measure => have := hgk.out; omega
        · obtain rfl : y = 0 := by omega
          clear hy hk hsum hgk
          go_wp2_with fail
          go_ret
          exact ⟨rfl, rfl⟩
    · have hb3 : -9223372036854775807 ≤ b := by omega
      have hb4 : ¬ 0 < b - 1 := by omega
      clear hmin
      go_enter Try.func47, Try.ntmps47
      go_wp2_with fail
      go_loopg [3, 4] 0 (fun _ kk x wr => wr = w ∧ kk = .int .i64 0 ∧ x = .int .i64 (b - 1))
      case atStart => exact ⟨rfl, rfl, rfl⟩
      case round =>
        obtain ⟨rfl, rfl, rfl⟩ := hrel
        go_wp2_with fail
        go_ret
        exact ⟨rfl, rfl⟩

end Go.Proofs.Ytoejgfbeemokcaa
