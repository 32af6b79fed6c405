/- More on bits and bytes: plain. -/
import Derived.Test.YtmihlbecmagmbaaPlain
namespace Go.Proofs.Ytmihlbecmagmbaa

theorem byteAt_shl (l : List Bool) (_h : l.length % 8 ≠ 0) : byteAt l (l.length / 8) * 2 ^ (l.length % 8) % 256 = 0 := by
  have h1 := byteAt_low l
  obtain ⟨q, hq⟩ := Nat.dvd_of_mod_eq_zero h1
  rw [hq]
  have e : 2 ^ (8 - l.length % 8) * q * 2 ^ (l.length % 8) = 256 * q := by
    have h8 : 8 - l.length % 8 + l.length % 8 = 8 := by omega
    have : 2 ^ (8 - l.length % 8) * 2 ^ (l.length % 8) = 256 := by rw [← Nat.pow_add, h8]
    rw [Nat.mul_right_comm, this]
  rw [e]; omega

theorem valBits_one (x : Bool) : valBits x.toNat 1 = [x] := by cases x <;> rfl
theorem valBits_zero (v : Nat) : valBits v 0 = [] := rfl

end Go.Proofs.Ytmihlbecmagmbaa
