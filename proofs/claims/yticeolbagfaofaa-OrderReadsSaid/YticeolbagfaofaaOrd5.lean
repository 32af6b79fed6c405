/- order: Cost. -/
import Derived.Test.YticeolbagfaofaaOrd4
import Derived.Test.YticeolbagfaofaaNum3
namespace Go.Proofs.Yticeolbagfaofaa
open Go.RowKit

theorem widthN_parts {m : Nat} (h : 2 ≤ m) (hm : m ≤ 1000000) : ∃ u : Nat, widthN (m : Int) = u + 1 ∧ 2 ^ u < m ∧ m ≤ 2 ^ (u + 1) ∧ u ≤ 19 := by
  have h64 := two64
  have a2 := bitLen_lt (x := m - 1) (by omega)
  have a3 := bitLen_pos (x := m - 1) (by omega) (by omega)
  have a4 := bitLen_low (x := m - 1) (by omega) (by omega)
  have a5 := bitLen_le (x := m - 1) (k := 20) (by have : (2 : Nat) ^ 20 = 1048576 := by decide +kernel
                                                  omega) (by omega)
  refine ⟨Lib.bitLen (m - 1) - 1, ?_, by omega, ?_, by omega⟩
  · unfold widthN
    rw [if_neg (by omega)]
    have e : ((m : Int) - 1).toNat = m - 1 := by omega
    rw [e]; omega
  · have e : Lib.bitLen (m - 1) - 1 + 1 = Lib.bitLen (m - 1) := by omega
    rw [e]; omega

set_option maxRecDepth 100000 in
set_option maxHeartbeats 1000000 in
theorem cost_calls {n : Int} (hn : n ≤ 1000000) (hn0 : -9223372036854775808 ≤ n) {w : World} :
    Calls Try.prog 18 #[.int .i64 n] w fun e w' => e = .returned (.int .i64 (costN n.toNat : Int)) ∧ w = w' := by
  by_cases h1 : n ≤ 1
  · have hc : costN n.toNat = 0 := by
      have h : n.toNat = 0 ∨ n.toNat = 1 := by omega
      rcases h with h | h <;> rw [h] <;> rfl
    rw [hc]
    go_enter Try.func18, Try.ntmps18
    go_wp2_with fail
    go_loopg [0, 3, 4, 5] 0 (fun _ m c _ _ wr => wr = w ∧ m = .int .i64 n ∧ c = .int .i64 0)
    case atStart => exact ⟨rfl, rfl, rfl⟩
    case round =>
      obtain ⟨rfl, rfl, rfl⟩ := hrel
      go_wp2_with fail
      go_ret
      exact ⟨rfl, rfl⟩
  obtain ⟨N, rfl⟩ := Int.eq_ofNat_of_zero_le (show 0 ≤ n by omega)
  rw [Int.toNat_natCast]
  have hN : N ≤ 1000000 := by omega
  have hcl := costN_le N hN
  have HMO : Hid (∀ m, m ≤ N → costN m ≤ costN N) := Lib.hid fun m h => costN_mono h
  generalize hCN : costN N = C at hcl HMO ⊢
  have HCN := Lib.hid hCN
  clear hCN
  go_enter Try.func18, Try.ntmps18
  go_wp2_with fail
  go_loopg [0, 3, 4, 5] N (fun gk m c _ _ wr => wr = w ∧ ∃ t : Nat, Hid (t ≤ N ∧ gk = t ∧ costN t ≤ C) ∧ Hid (1 ≤ t) ∧ m = .int .i64 (t : Int) ∧ c = .int .i64 ((C : Int) - (costN t : Int)))
  case atStart => exact ⟨rfl, N, Lib.hid ⟨by omega, rfl, HMO.out N (Nat.le_refl _)⟩, Lib.hid (by omega), rfl, by rw [HCN.out]; simp⟩
  case round =>
    obtain ⟨rfl, t, hq, ht1, rfl, rfl⟩ := hrel
    obtain ⟨q1, q2, q3⟩ := hq.out
    clear hq
    by_cases c : 1 < t
    · obtain ⟨u, hu1, hu2, hu3, hu4⟩ := widthN_parts c (by omega)
      have hcw := costN_width (w := u) (by omega) t (by omega) hu3
      have hW := fun w1 => width_calls (b := (t : Int)) (by omega) (by omega) (w := w1)
      rw [hu1] at hW
      have HW := Lib.hid hW
      have HCW := Lib.hid hcw
      clear hW hu1 hcw
      have hP1 : 1 ≤ 2 ^ u := Nat.one_le_two_pow
      have hPI : ((2 : Int) ^ u) = ((2 ^ u : Nat) : Int) := by rw [Int.natCast_pow]; rfl
      generalize 2 ^ u = P at hu2 hu3 HCW hP1 hPI
      obtain ⟨X, hX⟩ : ∃ X : Nat, X = (u + 1) * (t - P) := ⟨_, rfl⟩
      have hXb : X ≤ 20 * 1000000 := by rw [hX]; exact Nat.mul_le_mul (by omega) (by omega)
      have hXI : ((u : Int) + 1) * ((t : Int) - ((P : Int) + 1) + 1) = (X : Int) := by
        have e1 : (t : Int) - ((P : Int) + 1) + 1 = ((t - P : Nat) : Int) := by omega
        have e2 : (u : Int) + 1 = ((u + 1 : Nat) : Int) := by omega
        rw [e1, e2, ← Int.natCast_mul, hX]
      have hXw : wrap64 (((u : Int) + 1) * ((t : Int) - ((P : Int) + 1) + 1)) = (X : Int) := by
        rw [hXI, ← IntWalk.i64_left]
        exact IntWalk.i64_in _ ⟨by omega, by omega⟩
      rw [← hX] at HCW
      have hcp : costN t = costN P + X := HCW.out
      generalize costN t = ct at *
      have HCP := Lib.hid hcp
      clear hXI hX hcp HCW
      go_wp2_with fail
      refine (HW.out _).mono ?_
      rintro e w1 ⟨rfl, rfl⟩
      go_wp2_with fail
      go_roundg P
      case rel => exact ⟨rfl, P, Lib.hid ⟨by omega, rfl, by have := HCP.out; omega⟩, Lib.hid hP1, rfl, by have := HCP.out; go_num⟩
      case measure => omega
    · obtain rfl : t = 1 := by have := ht1.out; omega
      go_wp2_with fail
      go_ret
      have e : costN 1 = 0 := rfl
      rw [e]
      exact ⟨by simp, rfl⟩

end Go.Proofs.Yticeolbagfaofaa
