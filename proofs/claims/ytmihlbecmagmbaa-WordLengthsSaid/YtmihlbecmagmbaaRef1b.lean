import Derived.Test.YtmihlbecmagmbaaRef1
import Derived.Test.YtmihlbecmagmbaaBase
namespace Go.Proofs.Ytmihlbecmagmbaa
open Go.RowKit

/-- The first bits of a byte, as the reference adds them up. -/
def partB (l : List Bool) (i : Nat) : Nat → Nat
  | 0 => 0
  | j + 1 => 2 * partB l i j + bit l (i + j)
theorem partB_lt (l : List Bool) (i j : Nat) : partB l i j < 2 ^ j := by
  induction j with
  | zero => simp [partB]
  | succ j ih => rw [partB, Nat.pow_succ]; have := bit_le l (i + j); omega
theorem partB_byte (l : List Bool) (k : Nat) : partB l (8 * k) 8 = byteAt l k := by
  simp only [partB, byteAt, Nat.add_zero]; omega

theorem bit_get (l : List Bool) (i : Nat) (h : i < l.length) : (l.map bitv)[i]? = some (.int .i64 (bit l i : Int)) := by
  simp [bitv, bit, List.getD, List.getElem?_eq_getElem h]

end Go.Proofs.Ytmihlbecmagmbaa
