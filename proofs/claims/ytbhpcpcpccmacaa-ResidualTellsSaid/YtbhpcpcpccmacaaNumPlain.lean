/- Numbers as bits: plain. -/
import Derived.Test.YtbhpcpcpccmacaaGA
import Derived.Lib.BitFns
namespace Go.Proofs.Ytbhpcpcpccmacaa
open Go.Lib (bitLen_half)

theorem bitLen_zero : Lib.bitLen 0 = 0 := rfl

theorem bitLen_bounds : ∀ (k x : Nat), x < 2 ^ k → k ≤ 64 → Lib.bitLen x ≤ k ∧ x < 2 ^ Lib.bitLen x ∧ (x ≠ 0 → 0 < Lib.bitLen x ∧ 2 ^ (Lib.bitLen x - 1) ≤ x) := by
  intro k
  induction k with
  | zero => intro x hx _; have : x = 0 := by simp at hx; exact hx
            subst this; simp [bitLen_zero]
  | succ k ih =>
    intro x hx hk
    by_cases h0 : x = 0
    · subst h0; simp [bitLen_zero]
    · have h64 : x < 2 ^ 64 := Nat.lt_of_lt_of_le hx (Nat.pow_le_pow_right (by decide) hk)
      have hh := bitLen_half x h0 h64
      obtain ⟨h1, h2, h3⟩ := ih (x / 2) (by rw [Nat.pow_succ] at hx; omega) (by omega)
      refine ⟨by omega, ?_, fun _ => ⟨by omega, ?_⟩⟩
      · rw [hh, Nat.add_comm, Nat.pow_succ]; omega
      · rw [hh, show 1 + Lib.bitLen (x / 2) - 1 = Lib.bitLen (x / 2) from by omega]
        by_cases hz : x / 2 = 0
        · rw [hz, bitLen_zero]; simp; omega
        · have h4 := (h3 hz).2
          have e : Lib.bitLen (x / 2) = Lib.bitLen (x / 2) - 1 + 1 := by have := (h3 hz).1; omega
          rw [e, Nat.pow_succ]; omega

theorem bitLen_lt {x : Nat} (h : x < 2 ^ 64) : x < 2 ^ Lib.bitLen x := (bitLen_bounds 64 x h (Nat.le_refl _)).2.1
theorem bitLen_le {x k : Nat} (h : x < 2 ^ k) (hk : k ≤ 64) : Lib.bitLen x ≤ k := (bitLen_bounds k x h hk).1
theorem bitLen_pos {x : Nat} (h : x < 2 ^ 64) (h0 : x ≠ 0) : 0 < Lib.bitLen x := ((bitLen_bounds 64 x h (Nat.le_refl _)).2.2 h0).1
theorem bitLen_low {x : Nat} (h : x < 2 ^ 64) (h0 : x ≠ 0) : 2 ^ (Lib.bitLen x - 1) ≤ x := ((bitLen_bounds 64 x h (Nat.le_refl _)).2.2 h0).2

/-- How often n + 1 can be halved. -/
def halfN (n : Nat) : Nat := Lib.bitLen (n + 1) - 1
/-- The long form: k noughts, then n + 1 in k + 1 bits. -/
def longN (n : Nat) : List Bool := List.replicate (halfN n) false ++ valBits (n + 1) (halfN n + 1)
/-- Its size. -/
def sizeN (n : Nat) : Nat := 2 * halfN n + 1

theorem two33 : (2 : Nat) ^ 33 = 8589934592 := by decide +kernel
theorem two64 : (2 : Nat) ^ 64 = 18446744073709551616 := by decide +kernel
theorem two32 : (2 : Nat) ^ 32 = 4294967296 := by decide +kernel

theorem halfN_le {n : Nat} (h : n ≤ 4294967296) : halfN n ≤ 32 := by
  have h2 := two33
  have := bitLen_le (x := n + 1) (k := 33) (by omega) (by omega)
  unfold halfN; omega
theorem halfN_lt {n : Nat} (h : n ≤ 4294967296) : n + 1 < 2 ^ (halfN n + 1) := by
  have h2 := two64
  have h3 := bitLen_lt (x := n + 1) (by omega)
  have h4 := bitLen_pos (x := n + 1) (by omega) (by omega)
  unfold halfN
  rw [show Lib.bitLen (n + 1) - 1 + 1 = Lib.bitLen (n + 1) from by omega]; exact h3
theorem halfN_low {n : Nat} (h : n ≤ 4294967296) : 2 ^ halfN n ≤ n + 1 := by
  have h2 := two64
  exact bitLen_low (x := n + 1) (by omega) (by omega)
theorem longN_length (n : Nat) : (longN n).length = sizeN n := by
  unfold longN sizeN
  rw [List.length_append, List.length_replicate, valBits_length]; omega
theorem valBits_of_zero (k : Nat) : valBits 0 k = List.replicate k false := by
  unfold valBits
  apply List.ext_getElem?
  intro i
  by_cases h : i < k <;> simp [h]

/-- The width of a bound. -/
def widthN (below : Int) : Nat := if below < 2 then 0 else Lib.bitLen (below - 1).toNat
theorem widthN_le {b : Int} (h : b ≤ 9223372036854775807) : widthN b ≤ 63 := by
  unfold widthN
  split
  · omega
  · exact bitLen_le (by have : (2 : Nat) ^ 63 = 9223372036854775808 := by decide +kernel
                        omega) (by omega)
theorem widthN_lt {b : Int} {v : Nat} (h : b ≤ 9223372036854775807) (hv : (v : Int) < b) : v < 2 ^ widthN b := by
  unfold widthN
  split
  · have : v = 0 := by omega
    subst this; exact Nat.two_pow_pos _
  · have h2 := two64
    have := bitLen_lt (x := (b - 1).toNat) (by omega)
    omega

end Go.Proofs.Ytbhpcpcpccmacaa
