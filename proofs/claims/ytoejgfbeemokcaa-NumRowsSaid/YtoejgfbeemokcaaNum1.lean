import Derived.Test.YtoejgfbeemokcaaRef1
import Derived.Test.YtoejgfbeemokcaaLen64
import Derived.Test.YtoejgfbeemokcaaNumPlain
namespace Go.Proofs.Ytoejgfbeemokcaa
open Go.RowKit

set_option maxHeartbeats 400000 in
theorem half_calls {n : Nat} (hn : n ≤ 4294967296) {w : World} : Calls Try.prog 57 #[.int .u64 (n : Int)] w fun e w' => e = .returned (.int .i64 (halfN n : Int)) ∧ w = w' := by
  have h64 := two64
  have hp := bitLen_pos (x := n + 1) (by omega) (by omega)
  have hl := bitLen_le (x := n + 1) (k := 64) (by omega) (by omega)
  have hh : (Lib.bitLen (n + 1) : Int) - 1 = (halfN n : Int) := by unfold halfN; omega
  have HH := Lib.hid hh
  clear hh h64
  go_enter Try.func57, Try.ntmps57
  go_wp2_with fail
  refine (bits_Len64 _ _ (by omega) (by omega)).mono ?_
  rintro e w' ⟨rfl, rfl⟩
  rw [show ((n : Int) + 1).toNat = n + 1 from rfl]
  generalize Lib.bitLen (n + 1) = k at *
  go_wp2_with fail
  go_ret
  exact ⟨ret_i64 HH.out, rfl⟩

end Go.Proofs.Ytoejgfbeemokcaa
