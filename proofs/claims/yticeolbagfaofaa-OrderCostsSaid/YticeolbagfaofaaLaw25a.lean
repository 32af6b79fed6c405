import Derived.Test.YticeolbagfaofaaOrd9
namespace Go.Proofs.Yticeolbagfaofaa
open Go.RowKit

/-- The least power of two from a number on. -/
theorem widthN_pow {k : Nat} (hk : k + 1 ≤ 1000000) (u : Nat) (hu : u ≤ 40) : 2 ^ u < k + 1 ↔ u < widthN ((k + 1 : Nat) : Int) := by
  by_cases h1 : k = 0
  · subst h1
    have e : widthN ((0 + 1 : Nat) : Int) = 0 := by decide
    rw [e]
    have := Nat.one_le_two_pow (n := u)
    omega
  obtain ⟨v, hv1, hv2, hv3, hv4⟩ := widthN_parts (m := k + 1) (by omega) hk
  rw [hv1]
  constructor
  · intro h
    apply Nat.lt_of_not_le
    intro hc
    have := Nat.pow_le_pow_right (n := 2) (by omega) hc
    omega
  · intro h
    have := Nat.pow_le_pow_right (n := 2) (by omega) (show u ≤ v by omega)
    omega

set_option maxRecDepth 100000 in
set_option maxHeartbeats 4000000 in
theorem law_OrderCosts (n : Int) (wn : (Lit.int .u16 n).wf = true) {w : World} :
    Calls Try.prog 5 #[.int .u16 n] w fun e w' => e = .returned (.bool true) ∧ Below w.heap.size w w' := by
  have hn0 := (wf_u16 wn).1
  have hn1 := (wf_u16 wn).2
  clear wn
  have H := Sep.start w
  generalize hB : HP.old w.heap.size w = O at H
  have HB := Lib.hid hB; clear hB
  obtain ⟨k, hk⟩ : ∃ k : Nat, (k : Int) = n % 5000 := ⟨(n % 5000).toNat, by omega⟩
  have hkb : k < 5000 := by omega
  have hrem : n.tmod 5000 = (k : Int) := by rw [Int.tmod_eq_emod_of_nonneg hn0, hk]
  have hrem2 : n % 5000 = (k : Int) := hk.symm
  clear hk
  have hc1 : costN (k + 1) = costN k + widthN ((k + 1 : Nat) : Int) := rfl
  have hcl := costN_le (k + 1) (by omega)
  have hwl := widthN_le (b := ((k + 1 : Nat) : Int)) (by omega)
  have hPW := Lib.hid (widthN_pow (k := k) (by omega))
  have hw20 : widthN ((k + 1 : Nat) : Int) ≤ 20 := by
    apply Nat.le_of_not_lt
    intro h
    have := (hPW.out 20 (by omega)).2 h
    have h2 : (2 : Nat) ^ 20 = 1048576 := by decide +kernel
    omega
  have hC1 := fun w1 => cost_calls (n := ((k + 1 : Nat) : Int)) (by omega) (by omega) (w := w1)
  have hC2 := fun w1 => cost_calls (n := (k : Int)) (by omega) (by omega) (w := w1)
  have hC3 := fun w1 => cost_calls (n := -1 - (k : Int)) (by omega) (by omega) (w := w1)
  rw [Int.toNat_natCast] at hC1 hC2
  have e3 : (-1 - (k : Int)).toNat = 0 := by omega
  rw [e3] at hC3
  have HC1 := Lib.hid hC1
  have HC2 := Lib.hid hC2
  have HC3 := Lib.hid hC3
  have HCC := Lib.hid hc1
  have hcb : costN (k + 1) ≤ 400000 := by omega
  have hcb2 : costN k ≤ 400000 := by omega
  clear hC1 hC2 hC3 hc1 hcl hwl e3
  have hkI : ((k : Int) + 1) = ((k + 1 : Nat) : Int) := by omega
  generalize widthN ((k + 1 : Nat) : Int) = W at *
  generalize costN (k + 1) = C1 at *
  generalize costN k = C2 at *
  clear hkI
  go_enter Try.func5, Try.ntmps5
  go_wp2_with fail
  refine (awake25 H).mono ?_
  rintro e w1 ⟨rfl, H1⟩
  clear H
  go_wp2_with fail
  refine (HC1.out _).mono ?_
  rintro e w2 ⟨rfl, rfl⟩
  go_wp2_with fail
  go_loopg [5] W (fun gk i wr => wr = w1 ∧ ∃ u : Nat, Hid (u ≤ W ∧ gk = W - u) ∧ i = .int .i64 (u : Int))
  case atStart => exact ⟨rfl, 0, Lib.hid ⟨by omega, rfl⟩, rfl⟩
  case round =>
    obtain ⟨rfl, u, hq, rfl⟩ := hrel
    obtain ⟨q1, q2⟩ := hq.out
    clear hq
    have hp := hPW.out u (by omega)
    have hpb : 2 ^ u ≤ 2 ^ 20 := Nat.pow_le_pow_right (by omega) (by omega)
    have h20 : (2 : Nat) ^ 20 = 1048576 := by decide +kernel
    rw [h20] at hpb
    have hPI : ((2 : Int) ^ u) = ((2 ^ u : Nat) : Int) := by rw [Int.natCast_pow]; rfl
    have hu64 : u < 64 := by omega
    clear h20
    generalize 2 ^ u = P at hp hpb hPI
    by_cases c : u < W
    · have hlt : (P : Int) < (k : Int) + 1 := by have := hp.2 c; omega
      clear hp
      go_wp2_with fail
      go_roundg (W - (u + 1))
      case rel => exact ⟨rfl, u + 1, Lib.hid ⟨by omega, rfl⟩, by go_num⟩
      case measure => omega
    · have hlt : ¬ (P : Int) < (k : Int) + 1 := by have := fun h => c (hp.1 h); omega
      obtain rfl : u = W := by omega
      have hcc : (C1 : Int) = (C2 : Int) + (u : Int) := by have := HCC.out; omega
      have hbq : ((C1 : Int) == (C2 : Int) + (u : Int)) = true := by rw [beq_iff_eq]; exact hcc
      clear hp hcc
      go_wp2_with fail
      refine (HC2.out _).mono ?_
      rintro e w3 ⟨rfl, rfl⟩
      go_wp2_with fail
      refine (cost_calls (by decide) (by decide)).mono ?_
      rintro e w3 ⟨rfl, rfl⟩
      rw [show costN (0 : Int).toNat = 0 from rfl]
      go_wp2_with fail
      refine (cost_calls (by decide) (by decide)).mono ?_
      rintro e w3 ⟨rfl, rfl⟩
      rw [show costN (1 : Int).toNat = 0 from by decide]
      go_wp2_with fail
      refine (HC3.out _).mono ?_
      rintro e w3 ⟨rfl, rfl⟩
      rw [show costN 0 = 0 from rfl]
      go_wp2_with fail
      go_ret
      subst HB
      exact ⟨rfl, H1.below⟩

end Go.Proofs.Yticeolbagfaofaa
