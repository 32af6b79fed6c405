import Derived.Test.YtoejgfbeemokcaaNum5
import Derived.Lib.Zigzag
namespace Go.Proofs.Ytoejgfbeemokcaa
open Go.RowKit

theorem ret_u64 {a b : Int} (h : a = b) : Ending.returned (.int .u64 a) = .returned (.int .u64 b) := by rw [h]

/-- Zig and Zag, of whole numbers. -/
def zigZ (n : Int) : Int := if 0 ≤ n then 2 * n else -2 * n - 1
def zagZ (u : Int) : Int := if u % 2 = 0 then u / 2 else -(u / 2) - 1

theorem zag_zig (n : Int) : zagZ (zigZ n) = n := by unfold zagZ zigZ; split <;> split <;> omega
theorem zig_zag {u : Int} (h : 0 ≤ u) : zigZ (zagZ u) = u := by unfold zagZ zigZ; split <;> split <;> omega
theorem zigZ_range {n : Int} (h0 : -9223372036854775808 ≤ n) (h1 : n ≤ 9223372036854775807) : 0 ≤ zigZ n ∧ zigZ n ≤ 18446744073709551615 := by unfold zigZ; split <;> omega
theorem zagZ_range {u : Int} (h0 : 0 ≤ u) (h1 : u ≤ 18446744073709551615) : -9223372036854775808 ≤ zagZ u ∧ zagZ u ≤ 9223372036854775807 := by unfold zagZ; split <;> omega

theorem zig_pos {n : Int} (h0 : 0 ≤ n) (h1 : n ≤ 9223372036854775807) : bits BinOp.xor IntKind.u64 (n * 2) (n / 9223372036854775808) = zigZ n := by
  obtain ⟨m, rfl⟩ := Int.eq_ofNat_of_zero_le h0
  have e1 : (m : Int) / 9223372036854775808 = ((0 : Nat) : Int) := by omega
  have e2 : (m : Int) * 2 = ((m * 2 : Nat) : Int) := by omega
  rw [e1, e2, bits_xor_u64_nat _ _ (by omega) (by omega), Nat.xor_zero]
  unfold zigZ; rw [if_pos h0]; omega

theorem zig_neg {n : Int} (h0 : n < 0) (h1 : -9223372036854775808 ≤ n) : bits BinOp.xor IntKind.u64 (IntKind.u64.wrap (IntKind.u64.wrap n * 2)) (IntKind.u64.wrap (n / 9223372036854775808)) = zigZ n := by
  have w64 : ∀ x : Int, IntKind.u64.wrap x = x % 18446744073709551616 := fun x => by simp [IntKind.wrap, IntKind.bits, IntKind.signed]
  obtain ⟨m, hm⟩ : ∃ m : Nat, (m : Int) = 2 * n + 18446744073709551616 := ⟨(2 * n + 18446744073709551616).toNat, by omega⟩
  have e1 : IntKind.u64.wrap (IntKind.u64.wrap n * 2) = (m : Int) := by rw [w64, w64]; omega
  have e2 : IntKind.u64.wrap (n / 9223372036854775808) = ((18446744073709551615 : Nat) : Int) := by rw [w64]; omega
  have h64 := two64
  rw [e1, e2, bits_xor_u64_nat _ _ (by omega) (by omega), Nat.xor_comm]
  have hx := Lib.xor_ones64 m (by omega)
  rw [h64] at hx
  have e3 : (18446744073709551616 - 1 : Nat) = 18446744073709551615 := rfl
  rw [e3] at hx
  rw [hx]
  unfold zigZ; rw [if_neg (by omega)]; omega

set_option maxHeartbeats 400000 in
theorem zig_calls {n : Int} (h0 : -9223372036854775808 ≤ n) (h1 : n ≤ 9223372036854775807) {w : World} :
    Calls Try.prog 40 #[.int .i64 n] w fun e w' => e = .returned (.int .u64 (zigZ n)) ∧ w = w' := by
  by_cases h : 0 ≤ n
  · have HZ := Lib.hid (zig_pos h h1)
    go_enter Try.func40, Try.ntmps40
    go_wp2
    go_ret
    exact ⟨ret_u64 HZ.out, rfl⟩
  · have HZ := Lib.hid (zig_neg (by omega) h0)
    have h' : n < 0 := by omega
    clear h
    go_enter Try.func40, Try.ntmps40
    go_wp2
    go_ret
    exact ⟨ret_u64 HZ.out, rfl⟩

set_option maxHeartbeats 400000 in
theorem rzig_calls {n : Int} (h0 : -9223372036854775808 ≤ n) (h1 : n ≤ 9223372036854775807) {w : World} :
    Calls Try.prog 41 #[.int .i64 n] w fun e w' => e = .returned (.int .u64 (zigZ n)) ∧ w = w' := by
  by_cases h : 0 ≤ n
  · have HZ := Lib.hid (show 2 * n = zigZ n by unfold zigZ; rw [if_pos h])
    go_enter Try.func41, Try.ntmps41
    go_wp2
    go_ret
    exact ⟨ret_u64 HZ.out, rfl⟩
  · have HZ := Lib.hid (show 2 * -(n + 1) + 1 = zigZ n by unfold zigZ; rw [if_neg h]; omega)
    have h' : n < 0 := by omega
    clear h
    go_enter Try.func41, Try.ntmps41
    go_wp2
    go_ret
    exact ⟨ret_u64 HZ.out, rfl⟩

theorem xor_comm_i64 (a b : Int) : bits BinOp.xor IntKind.i64 a b = bits BinOp.xor IntKind.i64 b a := by
  simp only [bits]
  rw [BitVec.xor_comm]

theorem zag_odd {u : Int} (h0 : 0 ≤ u) (h1 : u ≤ 18446744073709551615) (hm : u % 2 = 1) : bits BinOp.xor IntKind.i64 (u / 2) (wrap64 (-wrap64 (bits BinOp.and IntKind.u64 u 1))) = zagZ u := by
  rw [and_one_u64 u h0 h1, hm]
  have e1 : wrap64 (-wrap64 1) = -1 := by unfold wrap64; omega
  rw [e1, xor_comm_i64]
  obtain ⟨m, hm2⟩ : ∃ m : Nat, (m : Int) = u / 2 := ⟨(u / 2).toNat, by omega⟩
  rw [← hm2, Lib.i64_not m (by omega)]
  unfold zagZ
  rw [if_neg (by omega), hm2]

theorem xor_zero_i64 (m : Nat) (h : m < 9223372036854775808) : bits BinOp.xor IntKind.i64 (m : Int) 0 = (m : Int) := by
  have h1 : (BitVec.ofInt 64 (m : Int)).toNat = m := by
    rw [BitVec.ofInt_natCast, BitVec.toNat_ofNat]; exact Nat.mod_eq_of_lt (by omega)
  show IntKind.i64.wrap ((BitVec.ofInt 64 (m : Int) ^^^ BitVec.ofInt 64 0).toNat : Int) = _
  have e : BitVec.ofInt 64 0 = 0#64 := rfl
  rw [e, BitVec.xor_zero, h1, IntKind.wrap_i64]
  omega

theorem zag_even {u : Int} (h0 : 0 ≤ u) (h1 : u ≤ 18446744073709551615) (hm : u % 2 = 0) : bits BinOp.xor IntKind.i64 (u / 2) (wrap64 (-wrap64 (bits BinOp.and IntKind.u64 u 1))) = zagZ u := by
  rw [and_one_u64 u h0 h1, hm]
  have e1 : wrap64 (-wrap64 0) = 0 := by unfold wrap64; omega
  rw [e1]
  obtain ⟨m, hm2⟩ : ∃ m : Nat, (m : Int) = u / 2 := ⟨(u / 2).toNat, by omega⟩
  rw [← hm2, xor_zero_i64 m (by omega)]
  unfold zagZ
  rw [if_pos hm, hm2]

set_option maxHeartbeats 400000 in
theorem zag_calls {u : Int} (h0 : 0 ≤ u) (h1 : u ≤ 18446744073709551615) {w : World} :
    Calls Try.prog 42 #[.int .u64 u] w fun e w' => e = .returned (.int .i64 (zagZ u)) ∧ w = w' := by
  have HZ : Hid (bits BinOp.xor IntKind.i64 (u / 2) (wrap64 (-wrap64 (bits BinOp.and IntKind.u64 u 1))) = zagZ u) := by
    rcases (by omega : u % 2 = 0 ∨ u % 2 = 1) with h | h
    · exact Lib.hid (zag_even h0 h1 h)
    · exact Lib.hid (zag_odd h0 h1 h)
  go_enter Try.func42, Try.ntmps42
  go_wp2
  go_ret
  exact ⟨ret_i64 HZ.out, rfl⟩

set_option maxHeartbeats 400000 in
theorem rzag_calls {u : Int} (h0 : 0 ≤ u) (h1 : u ≤ 18446744073709551615) {w : World} :
    Calls Try.prog 43 #[.int .u64 u] w fun e w' => e = .returned (.int .i64 (zagZ u)) ∧ w = w' := by
  by_cases h : u % 2 = 0
  · have HZ := Lib.hid (show u / 2 = zagZ u by unfold zagZ; rw [if_pos h])
    have h' : (u % 2 == 0) = true := by rw [beq_iff_eq]; exact h
    clear h
    go_enter Try.func43, Try.ntmps43
    go_wp2
    go_ret
    exact ⟨ret_i64 HZ.out, rfl⟩
  · have HZ := Lib.hid (show -(u / 2) - 1 = zagZ u by unfold zagZ; rw [if_neg h])
    have h' : (u % 2 == 0) = false := by rw [beq_eq_false_iff_ne]; exact h
    clear h
    go_enter Try.func43, Try.ntmps43
    go_wp2
    go_ret
    exact ⟨ret_i64 HZ.out, rfl⟩

end Go.Proofs.Ytoejgfbeemokcaa
