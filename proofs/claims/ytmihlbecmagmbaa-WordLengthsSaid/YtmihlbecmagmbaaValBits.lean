/- Numbers as bits, and back. -/
import Derived.Test.YtmihlbecmagmbaaPlain2
namespace Go.Proofs.Ytmihlbecmagmbaa

theorem valBits_succ (v n : Nat) : valBits v (n + 1) = valBits (v / 2) n ++ [v.testBit 0] := by
  unfold valBits
  rw [List.range_succ, List.map_append]
  congr 1
  · refine List.map_congr_left fun i hi => ?_
    have hi' := List.mem_range.1 hi
    rw [Nat.testBit_div_two]
    congr 1; omega
  · simp

theorem ofBits_valBits (v n : Nat) (h : v < 2 ^ n) : ofBits (valBits v n) = v := by
  induction n generalizing v with
  | zero => simp [valBits, ofBits]; omega
  | succ n ih =>
    rw [valBits_succ, ofBits_snoc, ih (v / 2) (by rw [Nat.pow_succ] at h; omega), Nat.testBit_zero]
    rcases Nat.mod_two_eq_zero_or_one v with h0 | h0 <;> simp [h0] <;> omega

end Go.Proofs.Ytmihlbecmagmbaa
