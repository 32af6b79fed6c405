import Derived.Test.YticeolbagfaofaaBits3
namespace Go.Proofs.Yticeolbagfaofaa
open Go.RowKit

/-- Get, of whole numbers. -/
theorem get_int {n : Int} {b i : Nat} {l : List Bool} {R : List HP} {w : World} (hn0 : 0 ≤ n) (hn : n ≤ 64) (hi : i + n.toNat ≤ l.length) (hl : l.length ≤ 33554432) (H : Sep w (Rdr b l i :: R)) :
    Calls Try.prog 41 #[.pointer (some ⟨b, 0, none⟩), .int .i64 n] w fun e w' => e = .returned (.tuple #[.int .u64 (ofBits ((l.drop i).take n.toNat) : Int), .int .i64 0]) ∧ Sep w' (Rdr b l (i + n.toNat) :: R) := by
  have h := get_ok (n := n.toNat) (by omega) hi hl H
  rw [Int.toNat_of_nonneg hn0] at h
  exact h

theorem get_end_int {n : Int} {b i : Nat} {l : List Bool} {R : List HP} {w : World} (hn0 : 0 ≤ n) (hn : n ≤ 64) (hi : i ≤ l.length) (hl : l.length ≤ 33554432) (he : l.length < i + n.toNat) (H : Sep w (Rdr b l i :: R)) :
    Calls Try.prog 41 #[.pointer (some ⟨b, 0, none⟩), .int .i64 n] w (Drew (.tuple #[.int .u64 0, .int .i64 4]) w) := by
  have h := get_end (n := n.toNat) (by omega) hi hl he H
  rw [Int.toNat_of_nonneg hn0] at h
  exact h

theorem ofBits_one (l : List Bool) (i : Nat) (h : i < l.length) : ofBits ((l.drop i).take 1) = bit l i := by
  have : (l.drop i).take 1 = [l[i]] := by
    rw [List.take_one, List.head?_drop, List.getElem?_eq_getElem h]; rfl
  rw [this]
  simp [ofBits, bit, List.getD, List.getElem?_eq_getElem h]

set_option maxHeartbeats 400000 in
theorem left_ok {b i : Nat} {l : List Bool} {R : List HP} {w : World} (hi : i ≤ l.length) (hl : l.length ≤ 33554432) (H : Sep w (Rdr b l i :: R)) :
    Calls Try.prog 22 #[.pointer (some ⟨b, 0, none⟩)] w (Drew (.int .i64 ((l.length : Int) - (i : Int))) w) := by
  obtain ⟨sv, H⟩ := Rdr.open H
  have c1 : w.cell? ⟨b, 1, none⟩ = some (.int .i64 (l.length : Int)) := H.cell 1 rfl
  have c2 : w.cell? ⟨b, 2, none⟩ = some (.int .i64 (i : Int)) := H.cell 2 rfl
  clear H
  go_enter Try.func22, Try.ntmps22
  go_wp2
  (refine wp_region_quiet_lit (by kernel_rfl) (by kernel_rfl) ?_; (repeat (first | go_big_quiet_skip | (go_big_quiet_want; go_big_quiet_op; (try go_bits); first | go_big_quiet_on | go_big_quiet_call (fail)))); refine wpQuiet_nil ?_; intro _ hw'; obtain ⟨nq, hw''⟩ := hw'; subst hw'')
  go_wp2
  go_ret
  exact ⟨rfl, _, rfl⟩

set_option maxHeartbeats 400000 in
theorem left_nil {w : World} : Calls Try.prog 22 #[.pointer none] w fun e w' => e = .returned (.int .i64 0) ∧ w = w' := by
  go_enter Try.func22, Try.ntmps22
  go_wp2
  go_ret
  exact ⟨rfl, rfl⟩

set_option maxHeartbeats 400000 in
theorem at_ok {b i : Nat} {l : List Bool} {R : List HP} {w : World} (H : Sep w (Rdr b l i :: R)) :
    Calls Try.prog 23 #[.pointer (some ⟨b, 0, none⟩)] w fun e w' => e = .returned (.int .i64 (i : Int)) ∧ w = w' := by
  obtain ⟨sv, H⟩ := Rdr.open H
  have c2 : w.cell? ⟨b, 2, none⟩ = some (.int .i64 (i : Int)) := H.cell 2 rfl
  clear H
  go_enter Try.func23, Try.ntmps23
  go_wp2
  go_ret
  exact ⟨rfl, rfl⟩

set_option maxHeartbeats 400000 in
theorem at_nil {w : World} : Calls Try.prog 23 #[.pointer none] w fun e w' => e = .returned (.int .i64 0) ∧ w = w' := by
  go_enter Try.func23, Try.ntmps23
  go_wp2
  go_ret
  exact ⟨rfl, rfl⟩

end Go.Proofs.Yticeolbagfaofaa
