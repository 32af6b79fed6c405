import Derived.Test.YtoejgfbeemokcaaNum6
namespace Go.Proofs.Ytoejgfbeemokcaa
open Go.RowKit

theorem bitStr_eq_lit : (⟨#[49, 48, 49, 48, 48, 49, 49, 48, 48, 49, 48, 48]⟩ : ByteArray) = bitStr [true, false, true, false, false, true, true, false, false, true, false, false] := by decide +kernel

set_option maxRecDepth 100000 in
set_option maxHeartbeats 2000000 in
theorem awake2 {R : List HP} {w : World} (H : Sep w R) :
    Calls Try.prog 35 #[] w fun e w' => e = .returned (.bool true) ∧ Sep w' R := by
  have H1 := Wr.new H
  go_enter Try.func35, Try.ntmps35
  have H2 := H1.alloc #[.int .u64 0, .int .u64 1, .int .u64 2, .int .u64 3] 29
  have e1 : (w.alloc (.cells #[.slice none 0 0, .int .i64 0] 26)).heap.size = w.heap.size + 1 := by simp
  rw [e1] at H2
  go_wp2_with fail
  generalize w.heap.size = q at H2 ⊢
  generalize (w.alloc (.cells #[.slice none 0 0, .int .i64 0] 26)).alloc (.cells #[.int .u64 0, .int .u64 1, .int .u64 2, .int .u64 3] 29) = w2 at H2 ⊢
  clear H H1 e1
  go_loopw [3, 8] (fun _ i wr => ∃ k : Nat, k ≤ 4 ∧ i = .int .i64 (k : Int) ∧ Sep wr (Wr q ((List.range k).flatMap longN) :: HP.pt (q + 1) #[.int .u64 0, .int .u64 1, .int .u64 2, .int .u64 3] 29 :: R)) (fun _ i _ => 4 - (intOf i).toNat)
  case atStart => exact ⟨0, by omega, rfl, H2.swap⟩
  case round =>
    clear H2
    obtain ⟨k, hk, rfl, Hr⟩ := hrel
    by_cases hlt : k < 4
    · have hc : wr.cell? ⟨q + 1, k, none⟩ = some (.int .u64 (k : Int)) := Hr.swap.cell k (by
        rcases (by omega : k = 0 ∨ k = 1 ∨ k = 2 ∨ k = 3) with rfl | rfl | rfl | rfl <;> rfl)
      have hs : (List.range (k + 1)).flatMap longN = (List.range k).flatMap longN ++ longN k := by
        rw [List.range_succ, List.flatMap_append]
        simp only [List.flatMap_cons, List.flatMap_nil, List.append_nil]
      have hl : ((List.range k).flatMap longN).length + sizeN k ≤ 33554432 := by
        rcases (by omega : k = 0 ∨ k = 1 ∨ k = 2 ∨ k = 3) with rfl | rfl | rfl | rfl <;> decide
      have HS := Lib.hid hs
      have HL := Lib.hid hl
      have hk4 : (k : Int) < 4 := by omega
      clear hs hl
      go_wp2_with fail
      refine (nput_ok (n := k) (by omega) HL.out Hr).mono ?_
      rintro e w3 ⟨rfl, H3⟩
      rw [← HS.out] at H3
      go_wp2_with fail
      go_roundw
      case rel => exact ⟨k + 1, by omega, by go_num, H3⟩
      case measure => simp [intOf]; omega
    · obtain rfl : k = 4 := by omega
      rw [show (List.range 4).flatMap longN = [true, false, true, false, false, true, true, false, false, true, false, false] from by decide] at Hr
      go_wp2_with fail
      refine (written_calls (by decide) Hr).mono ?_
      rintro e w3 ⟨rfl, H3⟩
      rw [← bitStr_eq_lit]
      go_wp2_with fail
      refine (width_calls (b := 5) (by omega) (by omega)).mono ?_
      rintro e w4 ⟨rfl, rfl⟩
      rw [show widthN 5 = 3 from by decide]
      go_wp2_with fail
      refine (zig_calls (n := -2) (by omega) (by omega)).mono ?_
      rintro e w4 ⟨rfl, rfl⟩
      rw [show zigZ (-2) = 3 from by decide]
      go_wp2_with fail
      refine (zag_calls (u := 3) (by omega) (by omega)).mono ?_
      rintro e w4 ⟨rfl, rfl⟩
      rw [show zagZ 3 = -2 from by decide]
      go_wp2_with fail
      refine (size_calls (n := 3) (by omega)).mono ?_
      rintro e w4 ⟨rfl, rfl⟩
      rw [show sizeN 3 = 5 from by decide]
      go_wp2_with fail
      go_ret
      exact ⟨rfl, H3.tail.tail⟩

end Go.Proofs.Ytoejgfbeemokcaa
