/- Reference 02: the number that digits tell. -/
import Derived.Test.YtoejgfbeemokcaaNumPre
namespace Go.Proofs.Ytoejgfbeemokcaa
open Go.RowKit

theorem bitStr_at {l : List Bool} {k : Nat} (h : k < l.length) (h2 : k < (bitStr l).size) : (bitStr l)[k] = chr l[k] := by
  show (bitStr l).data[k] = _
  simp [bitStr]

theorem bitStr_one {l : List Bool} {k : Nat} (h : k < l.length) (h2 : k < (bitStr l).size) : ((((bitStr l)[k]).toNat : Int) == 49) = l[k] := by
  rw [bitStr_at h]
  cases l[k] <;> rfl

set_option maxRecDepth 100000 in
set_option maxHeartbeats 1000000 in
theorem value2_calls {l : List Bool} (hl : l.length ≤ 64) {w : World} :
    Calls Try.prog 53 #[.string (bitStr l)] w fun e w' => e = .returned (.int .u64 (ofBits l : Int)) ∧ w = w' := by
  have hsz := bitStr_size l
  go_enter Try.func53, Try.ntmps53
  go_wp2_with fail
  go_loopg [3, 4] l.length (fun gk n i wr => wr = w ∧ ∃ k : Nat, k ≤ l.length ∧ Hid (gk = l.length - k) ∧ i = .int .i64 (k : Int) ∧ n = .int .u64 (ofBits (l.take k) : Int))
  case atStart => exact ⟨rfl, 0, by omega, Lib.hid rfl, rfl, by simp [ofBits]⟩
  case round =>
    obtain ⟨rfl, k, hk, hgk, rfl, rfl⟩ := hrel
    by_cases hlt : k < l.length
    · have hs : ofBits (l.take (k + 1)) = 2 * ofBits (l.take k) + (l[k]).toNat := by
        rw [List.take_succ_eq_append_getElem hlt, ofBits_snoc]
      have hu := ofBits_lt (l.take (k + 1))
      have hu64 : ofBits (l.take (k + 1)) ≤ 18446744073709551615 := by
        have := Nat.pow_le_pow_right (n := 2) (by decide) (show (l.take (k + 1)).length ≤ 64 by rw [List.length_take]; omega)
        have := two64
        omega
      rw [hs] at hu64
      have hi : (k : Int) < ((bitStr l).size : Int) := by rw [hsz]; omega
      generalize ofBits (l.take k) = y at *
      have HS := Lib.hid hs
      clear hs hu
      have hk2 : k < (bitStr l).size := by omega
      have hone := bitStr_one hlt hk2
      cases hb : l[k] with
      | true =>
        rw [hb] at hone HS hu64
        have HS1 : Hid (ofBits (l.take (k + 1)) = 2 * y + 1) := HS
        have hu1 : 2 * y + 1 ≤ 18446744073709551615 := hu64
        clear HS hu64 hb
        go_wp2_with fail
        go_roundg (l.length - (k + 1))
        case rel => exact ⟨rfl, k + 1, by omega, Lib.hid rfl, by go_num, by rw [HS1.out]; go_num⟩
        case measure => have := hgk.out; omega
      | false =>
        rw [hb] at hone HS hu64
        have HS1 : Hid (ofBits (l.take (k + 1)) = 2 * y) := HS
        have hu1 : 2 * y ≤ 18446744073709551615 := hu64
        clear HS hu64 hb
        go_wp2_with fail
        go_roundg (l.length - (k + 1))
        case rel => exact ⟨rfl, k + 1, by omega, Lib.hid rfl, by go_num, by rw [HS1.out]; go_num⟩
        case measure => have := hgk.out; omega
    · have hi : ¬ (k : Int) < ((bitStr l).size : Int) := by rw [hsz]; omega
      go_wp2_with fail
      go_ret
      obtain rfl : k = l.length := by omega
      rw [List.take_length]
      exact ⟨rfl, rfl⟩

end Go.Proofs.Ytoejgfbeemokcaa
