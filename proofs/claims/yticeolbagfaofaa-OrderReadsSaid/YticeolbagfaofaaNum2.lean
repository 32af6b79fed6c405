import Derived.Test.YticeolbagfaofaaNum1
import Derived.Test.YticeolbagfaofaaBits4
import Derived.Test.YticeolbagfaofaaFrame
namespace Go.Proofs.Yticeolbagfaofaa
open Go.RowKit

theorem put_eq {v n : Int} {V k b : Nat} {l : List Bool} {R : List HP} {w : World} (hv : v = (V : Int)) (hk : n = (k : Int)) (hn : k ≤ 64) (hV : V < 2 ^ k) (hl : l.length + k ≤ 33554432) (H : Sep w (Wr b l :: R)) :
    Calls Try.prog 39 #[.pointer (some ⟨b, 0, none⟩), .int .u64 v, .int .i64 n] w fun e w' => e = .returned (.int .i64 0) ∧ Sep w' (Wr b (l ++ valBits V k) :: R) := by
  subst hk; subst hv; exact put_ok hn hV hl H

set_option maxHeartbeats 400000 in
theorem width_calls {b : Int} (hb : b ≤ 9223372036854775807) (hb2 : -9223372036854775808 ≤ b) {w : World} : Calls Try.prog 35 #[.int .i64 b] w fun e w' => e = .returned (.int .i64 (widthN b : Int)) ∧ w = w' := by
  by_cases h : b < 2
  · have e : widthN b = 0 := by unfold widthN; rw [if_pos h]
    rw [e]
    clear hb e
    go_enter Try.func35, Try.ntmps35
    go_wp2_with fail
    go_ret
    exact ⟨rfl, rfl⟩
  · have e : widthN b = Lib.bitLen (b - 1).toNat := by unfold widthN; rw [if_neg h]
    rw [e]
    have h2 : 2 ≤ b := by omega
    obtain ⟨k, hk⟩ : ∃ k, k = Lib.bitLen (b - 1).toNat := ⟨_, rfl⟩
    rw [← hk]
    have HK := Lib.hid hk
    clear e h hk
    go_enter Try.func35, Try.ntmps35
    go_wp2_with fail
    refine (bits_Len64 _ _ (by omega) (by omega)).mono ?_
    rintro e w' ⟨rfl, rfl⟩
    rw [← HK.out]
    go_wp2_with fail
    go_ret
    exact ⟨rfl, rfl⟩

end Go.Proofs.Yticeolbagfaofaa
