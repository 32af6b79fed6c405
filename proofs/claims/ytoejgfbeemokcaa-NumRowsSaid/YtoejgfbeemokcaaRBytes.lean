/- Reference 02: a text of bits as bytes. -/
import Derived.Test.YtoejgfbeemokcaaVal
namespace Go.Proofs.Ytoejgfbeemokcaa
open Go.RowKit

theorem ofBits_eight : ∀ {x : List Bool}, x.length = 8 → ofBits x = byteAt x 0
  | [a, b, c, d, e, f, g, h], _ => by simp [ofBits, byteAt, bit]; omega

theorem bit_pad {l : List Bool} {k j q : Nat} (hj : j < 8) : bit ((l.drop (8 * k)).take 8 ++ List.replicate q false) j = bit l (8 * k + j) := by
  unfold bit
  congr 1
  simp only [List.getD]
  by_cases h : 8 * k + j < l.length
  · rw [List.getElem?_append_left (by simp; omega), List.getElem?_take_of_lt hj, List.getElem?_drop]
  · rw [List.getElem?_append_right (by simp; omega), show l[8 * k + j]? = none from List.getElem?_eq_none (by omega), List.getElem?_replicate]
    split <;> rfl

theorem byte_pad {l : List Bool} {k q : Nat} (h : ((l.drop (8 * k)).take 8).length + q = 8) : ofBits ((l.drop (8 * k)).take 8 ++ List.replicate q false) = byteAt l k := by
  rw [ofBits_eight (by simpa using h)]
  unfold byteAt
  simp only [Nat.mul_zero, Nat.zero_add]
  rw [show (0 : Nat) = 0 from rfl, bit_pad (by omega), bit_pad (by omega), bit_pad (by omega), bit_pad (by omega), bit_pad (by omega), bit_pad (by omega), bit_pad (by omega), bit_pad (by omega)]
  simp

theorem bitStr_zero (l : List Bool) : bitStr l ++ (⟨#[48]⟩ : ByteArray) = bitStr (l ++ [false]) := bitStr_append l [false]

set_option maxRecDepth 100000 in
set_option maxHeartbeats 1000000 in
theorem rbytes2_calls {l : List Bool} {R : List HP} {w : World} (hl : l.length ≤ 1099511627776) (H : Sep w R) :
    Calls Try.prog 60 #[.string (bitStr l)] w (Gives fun r w' => Sep w' (HP.row 5 1 r (pk l).length ((pk l).map u8v) :: R)) := by
  go_enter Try.func60, Try.ntmps60
  go_wp2_with fail
  go_loopg [0, 3] (l.length + 8) (fun gk s o wr => ∃ k : Nat, Hid (8 * k < l.length + 8 ∧ gk = l.length + 8 - 8 * k) ∧ s = .string (bitStr (l.drop (8 * k))) ∧ Sep wr (HP.row 5 1 o k ((pkN l k).map u8v) :: R))
  case atStart => exact ⟨0, Lib.hid ⟨by omega, by omega⟩, by simp, (H.alloc #[] 5).row_shut (by omega) (by unfold maxLen; omega) rfl (by simp [pkN])⟩
  case round =>
    obtain ⟨k, hk, rfl, Hr⟩ := hrel
    by_cases hlt : 8 * k < l.length
    · obtain ⟨oa, oc, rfl⟩ := Hr.row_form
      have hp : ∀ q, ((l.drop (8 * k)).take 8).length + q = 8 → ofBits ((l.drop (8 * k)).take 8 ++ List.replicate q false) = byteAt l k := fun q h => byte_pad h
      have hsz := bitStr_size (l.drop (8 * k))
      have hb := byteAt_lt l k
      have hdd : (l.drop (8 * k)).drop 8 = l.drop (8 * (k + 1)) := by rw [List.drop_drop]; congr 1
      rw [List.length_drop] at hsz
      have hszI : ((bitStr (l.drop (8 * k))).size : Int) = (l.length : Int) - 8 * (k : Int) := by rw [hsz]; omega
      have hltI : 8 * (k : Int) < (l.length : Int) := by omega
      by_cases h8 : (l.drop (8 * k)).length ≤ 8
      · have ht : (l.drop (8 * k)).take 8 = l.drop (8 * k) := List.take_of_length_le h8
        rw [ht] at hp
        have h8s : (bitStr (l.drop (8 * k))).size ≤ 8 := by rw [bitStr_size]; exact h8
        have he : (bitStr (l.drop (8 * k))).extract (l.length - 8 * k) (bitStr (l.drop (8 * k))).size = bitStr (l.drop (8 * (k + 1))) := by
          rw [bitStr_extract, bitStr_size, List.take_length, List.drop_drop, List.drop_eq_nil_of_le (by omega), List.drop_eq_nil_of_le (by rw [List.length_drop] at h8; omega)]
        have HE := Lib.hid he
        clear he
        have HB8 := Lib.hid h8
        have HPQ := Lib.hid hp
        clear hp hsz hdd
        go_wp2_with fail
        go_loopg [4] 8 (fun gk p wr1 => wr1 = wr ∧ ∃ q : Nat, Hid ((l.drop (8 * k)).length + q ≤ 8 ∧ gk = 8 - q) ∧ p = .string (bitStr ((l.drop (8 * k)) ++ List.replicate q false)))
        case atStart => exact ⟨rfl, 0, Lib.hid ⟨HB8.out, rfl⟩, by simp⟩
        case round =>
          obtain ⟨rfl, q, hq, rfl⟩ := hrel
          have hs1 : (bitStr ((l.drop (8 * k)) ++ List.replicate q false)).size = (l.drop (8 * k)).length + q := by rw [bitStr_size]; simp
          by_cases hq8 : (l.drop (8 * k)).length + q < 8
          · have hz := bitStr_zero ((l.drop (8 * k)) ++ List.replicate q false)
            rw [List.append_assoc, ← List.replicate_succ'] at hz
            have hI : ((bitStr ((l.drop (8 * k)) ++ List.replicate q false)).size : Int) < 8 := by rw [hs1]; omega
            have hmx : (bitStr ((l.drop (8 * k)) ++ List.replicate q false)).size ≤ 8 := by omega
            generalize bitStr ((l.drop (8 * k)) ++ List.replicate q false) = z at *
            have HZ := Lib.hid hz
            clear hz hs1
            go_wp2_with fail
            go_roundg (8 - (q + 1))
            case rel => exact ⟨rfl, q + 1, Lib.hid ⟨by omega, rfl⟩, by rw [HZ.out]⟩
            case measure => have := hq.out; omega
          · have hq9 : (l.drop (8 * k)).length + q = 8 := by have := hq.out; omega
            have hI : ¬ ((bitStr ((l.drop (8 * k)) ++ List.replicate q false)).size : Int) < 8 := by rw [hs1]; omega
            have hv := HPQ.out q hq9
            have hlen : ((l.drop (8 * k)) ++ List.replicate q false).length ≤ 64 := by simp; omega
            clear hs1
            go_wp2_with fail
            refine (value2_calls hlen).mono ?_
            rintro e w5 ⟨rfl, rfl⟩
            rw [hv]
            have hmod : (byteAt l k : Int) % 256 = (byteAt l k : Int) := by omega
            have h63 : k + 1 ≤ maxLen := by unfold maxLen; omega
            have hby : (k + 1) * 1 ≤ 140737488355328 := by omega
            go_wp2_with ((at_builtin; go_must (refine wpList_append_one rfl (.tmp 24) (.tmp 28) 24 rfl 5 (.int .u8 0) 1 Try.underlying24 info_u8 rfl _ _ _ (u8v (byteAt l k)) rfl rfl Hr rfl h63 hby ?_); intro g2 cap2 w2 H2))
            go_roundg (l.length + 8 - 8 * (k + 1))
            case rel => exact ⟨k + 1, Lib.hid ⟨by omega, rfl⟩, by rw [HE.out], by rw [pkN_succ]; simpa using H2⟩
            case measure => have := hk.out; omega
      · have hge : 8 < (bitStr (l.drop (8 * k))).size := by rw [bitStr_size]; omega
        have hgi : 8 < (l.length : Int) - 8 * (k : Int) := by rw [List.length_drop] at h8; omega
        have e8 : (bitStr (l.drop (8 * k))).extract 0 8 = bitStr ((l.drop (8 * k)).take 8) := by rw [bitStr_extract, List.drop_zero]
        have he : (bitStr (l.drop (8 * k))).extract 8 (bitStr (l.drop (8 * k))).size = bitStr (l.drop (8 * (k + 1))) := by
          rw [bitStr_extract, bitStr_size, List.take_length, hdd]
        have HE := Lib.hid he
        clear he
        have h8 : ((l.drop (8 * k)).take 8).length ≤ 8 := by rw [List.length_take]; omega
        have HB8 := Lib.hid h8
        have HPQ := Lib.hid hp
        have hdz : (bitStr ((l.drop (8 * k)).take 8)).size = 8 := by rw [bitStr_size, List.length_take]; omega
        clear hp hsz hdd h8
        go_wp2_with fail
        go_loopg [4] 8 (fun gk p wr1 => wr1 = wr ∧ ∃ q : Nat, Hid (((l.drop (8 * k)).take 8).length + q ≤ 8 ∧ gk = 8 - q) ∧ p = .string (bitStr ((l.drop (8 * k)).take 8 ++ List.replicate q false)))
        case atStart => exact ⟨rfl, 0, Lib.hid ⟨HB8.out, rfl⟩, by simp⟩
        case round =>
          obtain ⟨rfl, q, hq, rfl⟩ := hrel
          have hs1 : (bitStr ((l.drop (8 * k)).take 8 ++ List.replicate q false)).size = ((l.drop (8 * k)).take 8).length + q := by rw [bitStr_size]; simp
          by_cases hq8 : ((l.drop (8 * k)).take 8).length + q < 8
          · have hz := bitStr_zero ((l.drop (8 * k)).take 8 ++ List.replicate q false)
            rw [List.append_assoc, ← List.replicate_succ'] at hz
            have hI : ((bitStr ((l.drop (8 * k)).take 8 ++ List.replicate q false)).size : Int) < 8 := by rw [hs1]; omega
            have hmx : (bitStr ((l.drop (8 * k)).take 8 ++ List.replicate q false)).size ≤ 8 := by omega
            generalize bitStr ((l.drop (8 * k)).take 8 ++ List.replicate q false) = z at *
            have HZ := Lib.hid hz
            clear hz hs1
            go_wp2_with fail
            go_roundg (8 - (q + 1))
            case rel => exact ⟨rfl, q + 1, Lib.hid ⟨by omega, rfl⟩, by rw [HZ.out]⟩
            case measure => have := hq.out; omega
          · have hq9 : ((l.drop (8 * k)).take 8).length + q = 8 := by have := hq.out; omega
            have hI : ¬ ((bitStr ((l.drop (8 * k)).take 8 ++ List.replicate q false)).size : Int) < 8 := by rw [hs1]; omega
            have hv := HPQ.out q hq9
            have hlen : ((l.drop (8 * k)).take 8 ++ List.replicate q false).length ≤ 64 := by simp; omega
            clear hs1
            go_wp2_with fail
            refine (value2_calls hlen).mono ?_
            rintro e w5 ⟨rfl, rfl⟩
            rw [hv]
            have hmod : (byteAt l k : Int) % 256 = (byteAt l k : Int) := by omega
            have h63 : k + 1 ≤ maxLen := by unfold maxLen; omega
            have hby : (k + 1) * 1 ≤ 140737488355328 := by omega
            go_wp2_with ((at_builtin; go_must (refine wpList_append_one rfl (.tmp 24) (.tmp 28) 24 rfl 5 (.int .u8 0) 1 Try.underlying24 info_u8 rfl _ _ _ (u8v (byteAt l k)) rfl rfl Hr rfl h63 hby ?_); intro g2 cap2 w2 H2))
            go_roundg (l.length + 8 - 8 * (k + 1))
            case rel => exact ⟨k + 1, Lib.hid ⟨by omega, rfl⟩, by rw [HE.out], by rw [pkN_succ]; simpa using H2⟩
            case measure => have := hk.out; omega
    · have hsz0 : (bitStr (l.drop (8 * k))).size = 0 := by rw [bitStr_size, List.length_drop]; omega
      go_wp2_with fail
      go_ret
      have e : k = (pk l).length := by rw [pk_length]; have := hk.out; omega
      subst e
      exact ⟨_, rfl, by simpa [pk, pkN_length] using Hr⟩

end Go.Proofs.Ytoejgfbeemokcaa
