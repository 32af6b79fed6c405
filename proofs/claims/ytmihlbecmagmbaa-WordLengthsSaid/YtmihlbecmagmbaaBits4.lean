import Derived.Test.YtmihlbecmagmbaaBits3
namespace Go.Proofs.Ytmihlbecmagmbaa
open Go.RowKit

/-- Get, of whole numbers. -/
theorem get_int {n : Int} {b i : Nat} {l : List Bool} {R : List HP} {w : World} (hn0 : 0 ≤ n) (hn : n ≤ 64) (hi : i + n.toNat ≤ l.length) (hl : l.length ≤ 33554432) (H : Sep w (Rdr b l i :: R)) :
    Calls Try.prog 55 #[.pointer (some ⟨b, 0, none⟩), .int .i64 n] w fun e w' => e = .returned (.tuple #[.int .u64 (ofBits ((l.drop i).take n.toNat) : Int), .int .i64 0]) ∧ Sep w' (Rdr b l (i + n.toNat) :: R) := by
  have h := get_ok (n := n.toNat) (by omega) hi hl H
  rw [Int.toNat_of_nonneg hn0] at h
  exact h

theorem get_end_int {n : Int} {b i : Nat} {l : List Bool} {R : List HP} {w : World} (hn0 : 0 ≤ n) (hn : n ≤ 64) (hi : i ≤ l.length) (hl : l.length ≤ 33554432) (he : l.length < i + n.toNat) (H : Sep w (Rdr b l i :: R)) :
    Calls Try.prog 55 #[.pointer (some ⟨b, 0, none⟩), .int .i64 n] w (Drew (.tuple #[.int .u64 0, .int .i64 4]) w) := by
  have h := get_end (n := n.toNat) (by omega) hi hl he H
  rw [Int.toNat_of_nonneg hn0] at h
  exact h

theorem ofBits_one (l : List Bool) (i : Nat) (h : i < l.length) : ofBits ((l.drop i).take 1) = bit l i := by
  have : (l.drop i).take 1 = [l[i]] := by
    rw [List.take_one, List.head?_drop, List.getElem?_eq_getElem h]; rfl
  rw [this]
  simp [ofBits, bit, List.getD, List.getElem?_eq_getElem h]

set_option maxHeartbeats 400000 in
theorem rbit_ok {b i : Nat} {l : List Bool} {R : List HP} {w : World} (hi : i < l.length) (hl : l.length ≤ 33554432) (H : Sep w (Rdr b l i :: R)) :
    Calls Try.prog 54 #[.pointer (some ⟨b, 0, none⟩)] w fun e w' => e = .returned (.tuple #[.bool (l.getD i false), .int .i64 0]) ∧ Sep w' (Rdr b l (i + 1) :: R) := by
  have hb := ofBits_one l i hi
  obtain ⟨x, hx⟩ : ∃ x, x = l.getD i false := ⟨_, rfl⟩
  rw [← hx]
  have hbx : bit l i = x.toNat := by rw [hx]; rfl
  have HX := Lib.hid (hb.trans hbx)
  clear hb hbx hx
  go_enter Try.func54, Try.ntmps54
  go_wp2_with fail
  refine (get_int (by omega) (by omega) (show i + 1 ≤ l.length from hi) hl H).mono ?_
  rintro e w' ⟨rfl, H'⟩
  have e1 : (1 : Int).toNat = 1 := rfl
  rw [e1] at H'
  have hv : ((ofBits ((l.drop i).take (1 : Int).toNat) : Int) == 1) = x := by
    rw [e1, HX.out]; cases x <;> rfl
  generalize ofBits ((l.drop i).take (1 : Int).toNat) = V at *
  have HV := Lib.hid hv; clear hv
  go_wp2_with fail
  go_ret2
  rw [HV.out]
  exact ⟨rfl, H'⟩

set_option maxHeartbeats 400000 in
theorem rbit_end {b i : Nat} {l : List Bool} {R : List HP} {w : World} (hi : i = l.length) (hl : l.length ≤ 33554432) (H : Sep w (Rdr b l i :: R)) :
    Calls Try.prog 54 #[.pointer (some ⟨b, 0, none⟩)] w (Drew (.tuple #[.bool false, .int .i64 4]) w) := by
  go_enter Try.func54, Try.ntmps54
  go_wp2_with fail
  refine (get_end_int (by omega) (by omega) (by omega) hl (by have : (1 : Int).toNat = 1 := rfl; omega) H).mono ?_
  rintro e w' ⟨rfl, n, rfl⟩
  go_wp2_with fail
  go_ret2
  exact ⟨rfl, n, rfl⟩

set_option maxHeartbeats 400000 in
theorem rbit_nil {w : World} : Calls Try.prog 54 #[.pointer none] w fun e w' => e = .returned (.tuple #[.bool false, .int .i64 1]) ∧ w = w' := by
  go_enter Try.func54, Try.ntmps54
  go_wp2_with fail
  refine (get_nil _).mono ?_
  rintro e w' ⟨rfl, rfl⟩
  go_wp2_with fail
  go_ret2
  exact ⟨rfl, rfl⟩

set_option maxHeartbeats 400000 in
theorem left_ok {b i : Nat} {l : List Bool} {R : List HP} {w : World} (hi : i ≤ l.length) (hl : l.length ≤ 33554432) (H : Sep w (Rdr b l i :: R)) :
    Calls Try.prog 31 #[.pointer (some ⟨b, 0, none⟩)] w (Drew (.int .i64 ((l.length : Int) - (i : Int))) w) := by
  obtain ⟨sv, H⟩ := Rdr.open H
  have c1 : w.cell? ⟨b, 1, none⟩ = some (.int .i64 (l.length : Int)) := H.cell 1 rfl
  have c2 : w.cell? ⟨b, 2, none⟩ = some (.int .i64 (i : Int)) := H.cell 2 rfl
  clear H
  go_enter Try.func31, Try.ntmps31
  go_wp2
  (refine wp_region_quiet_lit (by kernel_rfl) (by kernel_rfl) ?_; (repeat (first | go_big_quiet_skip | (go_big_quiet_want; go_big_quiet_op; (try go_bits); first | go_big_quiet_on | go_big_quiet_call (fail)))); refine wpQuiet_nil ?_; intro _ hw'; obtain ⟨nq, hw''⟩ := hw'; subst hw'')
  go_wp2
  go_ret
  exact ⟨rfl, _, rfl⟩

set_option maxHeartbeats 400000 in
theorem left_nil {w : World} : Calls Try.prog 31 #[.pointer none] w fun e w' => e = .returned (.int .i64 0) ∧ w = w' := by
  go_enter Try.func31, Try.ntmps31
  go_wp2
  go_ret
  exact ⟨rfl, rfl⟩

end Go.Proofs.Ytmihlbecmagmbaa
