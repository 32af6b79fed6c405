import Derived.Test.YtoejgfbeemokcaaNum3
import Derived.Test.YtoejgfbeemokcaaStr
import Derived.Test.YtoejgfbeemokcaaRef1d
namespace Go.Proofs.Ytoejgfbeemokcaa
open Go.RowKit

theorem ret_str {a b : ByteArray} (h : a = b) : Ending.returned (.string a) = .returned (.string b) := by rw [h]

set_option maxHeartbeats 1000000 in
theorem binary_calls {v n : Nat} (hv : v < 2 ^ 64) (hn : n ≤ 64) {w : World} :
    Calls Try.prog 49 #[.int .u64 (v : Int), .int .i64 (n : Int)] w fun e w' => e = .returned (.string (bitStr (valBits v n))) ∧ w = w' := by
  have HV := Lib.hid hv; clear hv
  go_enter Try.func49, Try.ntmps49
  go_wp2
  go_loop [0, 5, 6] (fun x s i => ∃ k : Nat, k ≤ n ∧ i = .int .i64 k ∧ x = .int .u64 ((v / 2 ^ k : Nat) : Int) ∧ s = .string (bitStr (valBits v k))) (fun _ _ i => n - (intOf i).toNat)
  case atStart => exact ⟨0, by omega, rfl, by simp, rfl⟩
  case round =>
    obtain ⟨k, hk, rfl, rfl, rfl⟩ := hrel
    have h64 : (2 : Nat) ^ 64 = 18446744073709551616 := by decide +kernel
    have hb : v / 2 ^ k ≤ 18446744073709551615 := by have := Nat.div_le_self v (2 ^ k); have := HV.out; omega
    clear h64
    have hsz : (bitStr (valBits v k)).size ≤ 64 := by rw [bitStr_size, valBits_length]; omega
    have ht := Nat.testBit_eq_decide_div_mod_eq (x := v) (i := k)
    have hc := valBits_cons v k
    obtain ⟨x, hx⟩ : ∃ x, x = v / 2 ^ k := ⟨_, rfl⟩
    rw [← hx] at hb ht ⊢
    have HX := Lib.hid hx; clear hx
    generalize v.testBit k = y at ht hc
    by_cases hlt : k < n
    · have hrel : bitStr (valBits v (k + 1)) = bitStr [y] ++ bitStr (valBits v k) := by rw [hc, bitStr_append]; rfl
      have HREL := Lib.hid hrel
      have hnx : Hid (x / 2 = v / 2 ^ (k + 1)) := Lib.hid (by rw [HX.out, Nat.pow_succ, ← Nat.div_div_eq_div_mul])
      generalize bitStr (valBits v k) = q at *
      clear hrel hc
      by_cases hm : x % 2 = 1
      · have hm1 : ((x : Int) % 2 == 1) = true := by rw [beq_iff_eq]; omega
        obtain rfl : y = true := by rw [ht]; exact decide_eq_true hm
        clear hm ht
        go_wp2
        go_round
        case rel => exact ⟨k + 1, by omega, by go_num, by rw [← hnx.out]; rfl, by rw [HREL.out]; rfl⟩
        case measure => simp [intOf]; omega
      · have hm1 : ((x : Int) % 2 == 1) = false := by rw [beq_eq_false_iff_ne]; omega
        obtain rfl : y = false := by rw [ht]; exact decide_eq_false hm
        clear hm ht
        go_wp2
        go_round
        case rel => exact ⟨k + 1, by omega, by go_num, by rw [← hnx.out]; rfl, by rw [HREL.out]; rfl⟩
        case measure => simp [intOf]; omega
    · go_wp2
      go_ret
      have e : k = n := by omega
      subst e
      exact ⟨rfl, rfl⟩

end Go.Proofs.Ytoejgfbeemokcaa
