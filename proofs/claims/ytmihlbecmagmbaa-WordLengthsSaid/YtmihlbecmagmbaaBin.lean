/- Texts of bits: reference 02's Binary, Bits, Value, Bytes (for seats without the numbers' chapter). Parts of XNum4, XNum5, XVal, XRBytes, XText. -/
import Derived.Test.YtmihlbecmagmbaaStr
import Derived.Test.YtmihlbecmagmbaaNr
import Derived.Test.YtmihlbecmagmbaaRef1d
import Derived.Test.YtmihlbecmagmbaaNumPlain
import Derived.Test.YtmihlbecmagmbaaValBits
namespace Go.Proofs.Ytmihlbecmagmbaa
open Go.RowKit

theorem ret_str {a b : ByteArray} (h : a = b) : Ending.returned (.string a) = .returned (.string b) := by rw [h]

set_option maxHeartbeats 1000000 in
theorem binary_calls {v n : Nat} (hv : v < 2 ^ 64) (hn : n ≤ 64) {w : World} :
    Calls Try.prog 47 #[.int .u64 (v : Int), .int .i64 (n : Int)] w fun e w' => e = .returned (.string (bitStr (valBits v n))) ∧ w = w' := by
  have HV := Lib.hid hv; clear hv
  go_enter Try.func47, Try.ntmps47
  go_wp2
  go_loop [0, 5, 6] (fun x s i => ∃ k : Nat, k ≤ n ∧ i = .int .i64 k ∧ x = .int .u64 ((v / 2 ^ k : Nat) : Int) ∧ s = .string (bitStr (valBits v k))) (fun _ _ i => n - (intOf i).toNat)
  case atStart => exact ⟨0, by omega, rfl, by simp, rfl⟩
  case round =>
    obtain ⟨k, hk, rfl, rfl, rfl⟩ := hrel
    have h64 : (2 : Nat) ^ 64 = 18446744073709551616 := by decide +kernel
    have hb : v / 2 ^ k ≤ 18446744073709551615 := by have := Nat.div_le_self v (2 ^ k); have := HV.out; omega
    clear h64
    have hsz : (bitStr (valBits v k)).size ≤ 64 := by rw [bitStr_size, valBits_length]; omega
    have ht := Nat.testBit_eq_decide_div_mod_eq (x := v) (i := k)
    have hc := valBits_cons v k
    obtain ⟨x, hx⟩ : ∃ x, x = v / 2 ^ k := ⟨_, rfl⟩
    rw [← hx] at hb ht ⊢
    have HX := Lib.hid hx; clear hx
    generalize v.testBit k = y at ht hc
    by_cases hlt : k < n
    · have hrel : bitStr (valBits v (k + 1)) = bitStr [y] ++ bitStr (valBits v k) := by rw [hc, bitStr_append]; rfl
      have HREL := Lib.hid hrel
      have hnx : Hid (x / 2 = v / 2 ^ (k + 1)) := Lib.hid (by rw [HX.out, Nat.pow_succ, ← Nat.div_div_eq_div_mul])
      generalize bitStr (valBits v k) = q at *
      clear hrel hc
      by_cases hm : x % 2 = 1
      · have hm1 : ((x : Int) % 2 == 1) = true := by rw [beq_iff_eq]; omega
        obtain rfl : y = true := by rw [ht]; exact decide_eq_true hm
        clear hm ht
        go_wp2
        go_round
        case rel => exact ⟨k + 1, by omega, by go_num, by rw [← hnx.out]; rfl, by rw [HREL.out]; rfl⟩
        case measure => simp [intOf]; omega
      · have hm1 : ((x : Int) % 2 == 1) = false := by rw [beq_eq_false_iff_ne]; omega
        obtain rfl : y = false := by rw [ht]; exact decide_eq_false hm
        clear hm ht
        go_wp2
        go_round
        case rel => exact ⟨k + 1, by omega, by go_num, by rw [← hnx.out]; rfl, by rw [HREL.out]; rfl⟩
        case measure => simp [intOf]; omega
    · go_wp2
      go_ret
      have e : k = n := by omega
      subst e
      exact ⟨rfl, rfl⟩

theorem binary_int {v n : Int} {V k : Nat} (hv : v = (V : Int)) (hk : n = (k : Int)) (hV : V < 2 ^ 64) (hn : k ≤ 64) {w : World} :
    Calls Try.prog 47 #[.int .u64 v, .int .i64 n] w fun e w' => e = .returned (.string (bitStr (valBits V k))) ∧ w = w' := by
  subst hv; subst hk; exact binary_calls hV hn

set_option maxRecDepth 100000 in
set_option maxHeartbeats 1000000 in
theorem rbits_calls {v : Value} {bs : List Nat} {n : Nat} {w : World} (hb : ∀ x ∈ bs, x < 256) (hn : n ≤ 8 * bs.length) (hn2 : n ≤ 1048576) (hrd : RdS w v bs.length 1 (bs.map u8v)) :
    Calls Try.prog 27 #[v, .int .i64 (n : Int)] w fun e w' => e = .returned (.string (bitStr ((allBits bs).take n))) ∧ w = w' := by
  obtain ⟨a, cap, rfl⟩ := hrd.form
  have HRD := Lib.hid hrd; clear hrd
  have HBB := Lib.hid hb; clear hb
  go_enter Try.func27, Try.ntmps27
  go_wp2
  go_loop [5, 6] (fun s i => ∃ k : Nat, k ≤ n ∧ i = .int .i64 k ∧ s = .string (bitStr ((allBits bs).take k))) (fun _ i => n - (intOf i).toNat)
  case atStart => exact ⟨0, by omega, rfl, rfl⟩
  case round =>
    obtain ⟨k, hk, rfl, rfl⟩ := hrel
    by_cases hlt : k < n
    · have hj : k / 8 < bs.length := by omega
      obtain ⟨g, o, cap', he⟩ := HRD.out.open (by omega)
      simp only [Value.slice.injEq, true_and] at he
      obtain ⟨rfl, rfl⟩ := he
      have hc : w.cell? ⟨g, o + k / 8, none⟩ = some (.int .u8 (bs[k / 8] : Int)) := HRD.out.cell _ (u8v_get _ _ hj)
      have hx : bs[k / 8] < 256 := HBB.out _ (List.getElem_mem hj)
      have hsz : (bitStr ((allBits bs).take k)).size ≤ 1048576 := by rw [bitStr_size, List.length_take]; omega
      have hkl : k < (allBits bs).length := by rw [allBits_length]; omega
      have hs : bitStr ((allBits bs).take (k + 1)) = bitStr ((allBits bs).take k) ++ bitStr (valBits (bs[k / 8] / 2 ^ (7 - k % 8)) 1) := by
        rw [bitStr_append, List.take_succ_eq_append_getElem hkl]
        congr 2
        have hg := allBits_get bs (k / 8) (k % 8) (by omega) hj
        rw [show 8 * (k / 8) + k % 8 = k from by omega, List.getD, List.getElem?_eq_getElem hkl, Option.getD_some] at hg
        rw [hg, valBits_cons, valBits_zero]
        congr 1
        rw [Nat.testBit_eq_decide_div_mod_eq, Nat.testBit_eq_decide_div_mod_eq, Nat.pow_zero, Nat.div_one]
      have hy : bs[k / 8] / 2 ^ (7 - k % 8) < 2 ^ 64 := by
        have := two64
        have := Nat.div_le_self bs[k / 8] (2 ^ (7 - k % 8)); omega
      have hyi : (bs[k / 8] : Int) / 2 ^ (7 - k % 8) = ((bs[k / 8] / 2 ^ (7 - k % 8) : Nat) : Int) := by simp
      have hd0 : (0 : Int) ≤ (k : Int) / 8 := by omega
      have hd1 : (k : Int) / 8 < (bs.length : Int) := by omega
      have hd2 : ((k : Int) / 8).toNat = k / 8 := by omega
      generalize bs[k / 8] / 2 ^ (7 - k % 8) = y at hs hy hyi
      generalize bs[k / 8] = x at *
      have HS := Lib.hid hs
      have HY := Lib.hid hy
      have HYI := Lib.hid hyi
      generalize bitStr ((allBits bs).take k) = q at *
      clear hs hy hyi hkl hj
      go_wp2_with fail
      refine (binary_int (V := y) (k := 1) HYI.out rfl HY.out (by omega)).mono ?_
      rintro e w' ⟨rfl, rfl⟩
      have hsz1 : (bitStr (valBits y 1)).size = 1 := by rw [bitStr_size, valBits_length]
      have hsz2 : (bitStr (valBits y 1)).size ≤ 1 := by omega
      clear hsz1
      generalize bitStr (valBits y 1) = q1 at *
      go_wp2_with fail
      go_round
      case rel => exact ⟨k + 1, by omega, by go_num, by rw [HS.out]⟩
      case measure => simp [intOf]; omega
    · go_wp2
      go_ret
      have e : k = n := by omega
      subst e
      exact ⟨rfl, rfl⟩

theorem bitStr_toList (l : List Bool) : (bitStr l).toList = l.map chr := ByteArray.toList_mk _
theorem bitStr_extract (l : List Bool) (i j : Nat) : (bitStr l).extract i j = bitStr ((l.take j).drop i) := by
  apply ba_ext
  simp [bitStr, ByteArray.data_extract, List.extract_eq_take_drop, List.map_drop, List.map_take, List.drop_take]

theorem bitStr_beq (a b : List Bool) : ((bitStr a).toList == (bitStr b).toList) = decide (a = b) := by
  rw [bitStr_toList, bitStr_toList]
  by_cases h : a = b
  · subst h; simp
  · have : a.map chr ≠ b.map chr := fun e => h (map_chr_inj e)
    simp [h, this]

theorem bitStr_at {l : List Bool} {k : Nat} (h : k < l.length) (h2 : k < (bitStr l).size) : (bitStr l)[k] = chr l[k] := by
  show (bitStr l).data[k] = _
  simp [bitStr]

theorem bitStr_one {l : List Bool} {k : Nat} (h : k < l.length) (h2 : k < (bitStr l).size) : ((((bitStr l)[k]).toNat : Int) == 49) = l[k] := by
  rw [bitStr_at h]
  cases l[k] <;> rfl

set_option maxRecDepth 100000 in
set_option maxHeartbeats 1000000 in
theorem value2_calls {l : List Bool} (hl : l.length ≤ 64) {w : World} :
    Calls Try.prog 53 #[.string (bitStr l)] w fun e w' => e = .returned (.int .u64 (ofBits l : Int)) ∧ w = w' := by
  have hsz := bitStr_size l
  go_enter Try.func53, Try.ntmps53
  go_wp2_with fail
  go_loopg [3, 4] l.length (fun gk n i wr => wr = w ∧ ∃ k : Nat, k ≤ l.length ∧ Hid (gk = l.length - k) ∧ i = .int .i64 (k : Int) ∧ n = .int .u64 (ofBits (l.take k) : Int))
  case atStart => exact ⟨rfl, 0, by omega, Lib.hid rfl, rfl, by simp [ofBits]⟩
  case round =>
    obtain ⟨rfl, k, hk, hgk, rfl, rfl⟩ := hrel
    by_cases hlt : k < l.length
    · have hs : ofBits (l.take (k + 1)) = 2 * ofBits (l.take k) + (l[k]).toNat := by
        rw [List.take_succ_eq_append_getElem hlt, ofBits_snoc]
      have hu := ofBits_lt (l.take (k + 1))
      have hu64 : ofBits (l.take (k + 1)) ≤ 18446744073709551615 := by
        have := Nat.pow_le_pow_right (n := 2) (by decide) (show (l.take (k + 1)).length ≤ 64 by rw [List.length_take]; omega)
        have := two64
        omega
      rw [hs] at hu64
      have hi : (k : Int) < ((bitStr l).size : Int) := by rw [hsz]; omega
      generalize ofBits (l.take k) = y at *
      have HS := Lib.hid hs
      clear hs hu
      have hk2 : k < (bitStr l).size := by omega
      have hone := bitStr_one hlt hk2
      cases hb : l[k] with
      | true =>
        rw [hb] at hone HS hu64
        have HS1 : Hid (ofBits (l.take (k + 1)) = 2 * y + 1) := HS
        have hu1 : 2 * y + 1 ≤ 18446744073709551615 := hu64
        clear HS hu64 hb
        go_wp2_with fail
        go_roundg (l.length - (k + 1))
        case rel => exact ⟨rfl, k + 1, by omega, Lib.hid rfl, by go_num, by rw [HS1.out]; go_num⟩
        case measure => have := hgk.out; omega
      | false =>
        rw [hb] at hone HS hu64
        have HS1 : Hid (ofBits (l.take (k + 1)) = 2 * y) := HS
        have hu1 : 2 * y ≤ 18446744073709551615 := hu64
        clear HS hu64 hb
        go_wp2_with fail
        go_roundg (l.length - (k + 1))
        case rel => exact ⟨rfl, k + 1, by omega, Lib.hid rfl, by go_num, by rw [HS1.out]; go_num⟩
        case measure => have := hgk.out; omega
    · have hi : ¬ (k : Int) < ((bitStr l).size : Int) := by rw [hsz]; omega
      go_wp2_with fail
      go_ret
      obtain rfl : k = l.length := by omega
      rw [List.take_length]
      exact ⟨rfl, rfl⟩

theorem ofBits_eight : ∀ {x : List Bool}, x.length = 8 → ofBits x = byteAt x 0
  | [a, b, c, d, e, f, g, h], _ => by simp [ofBits, byteAt, bit]; omega

theorem bit_pad {l : List Bool} {k j q : Nat} (hj : j < 8) : bit ((l.drop (8 * k)).take 8 ++ List.replicate q false) j = bit l (8 * k + j) := by
  unfold bit
  congr 1
  simp only [List.getD]
  by_cases h : 8 * k + j < l.length
  · rw [List.getElem?_append_left (by simp; omega), List.getElem?_take_of_lt hj, List.getElem?_drop]
  · rw [List.getElem?_append_right (by simp; omega), show l[8 * k + j]? = none from List.getElem?_eq_none (by omega), List.getElem?_replicate]
    split <;> rfl

theorem byte_pad {l : List Bool} {k q : Nat} (h : ((l.drop (8 * k)).take 8).length + q = 8) : ofBits ((l.drop (8 * k)).take 8 ++ List.replicate q false) = byteAt l k := by
  rw [ofBits_eight (by simpa using h)]
  unfold byteAt
  simp only [Nat.mul_zero, Nat.zero_add]
  rw [show (0 : Nat) = 0 from rfl, bit_pad (by omega), bit_pad (by omega), bit_pad (by omega), bit_pad (by omega), bit_pad (by omega), bit_pad (by omega), bit_pad (by omega), bit_pad (by omega)]
  simp

theorem bitStr_zero (l : List Bool) : bitStr l ++ (⟨#[48]⟩ : ByteArray) = bitStr (l ++ [false]) := bitStr_append l [false]

set_option maxRecDepth 100000 in
set_option maxHeartbeats 1000000 in
theorem rbytes2_calls {l : List Bool} {R : List HP} {w : World} (hl : l.length ≤ 1099511627776) (H : Sep w R) :
    Calls Try.prog 48 #[.string (bitStr l)] w (Gives fun r w' => Sep w' (HP.row 5 1 r (pk l).length ((pk l).map u8v) :: R)) := by
  go_enter Try.func48, Try.ntmps48
  go_wp2_with fail
  go_loopg [0, 3] (l.length + 8) (fun gk s o wr => ∃ k : Nat, Hid (8 * k < l.length + 8 ∧ gk = l.length + 8 - 8 * k) ∧ s = .string (bitStr (l.drop (8 * k))) ∧ Sep wr (HP.row 5 1 o k ((pkN l k).map u8v) :: R))
  case atStart => exact ⟨0, Lib.hid ⟨by omega, by omega⟩, by simp, (H.alloc #[] 5).row_shut (by omega) (by unfold maxLen; omega) rfl (by simp [pkN])⟩
  case round =>
    obtain ⟨k, hk, rfl, Hr⟩ := hrel
    by_cases hlt : 8 * k < l.length
    · obtain ⟨oa, oc, rfl⟩ := Hr.row_form
      have hp : ∀ q, ((l.drop (8 * k)).take 8).length + q = 8 → ofBits ((l.drop (8 * k)).take 8 ++ List.replicate q false) = byteAt l k := fun q h => byte_pad h
      have hsz := bitStr_size (l.drop (8 * k))
      have hb := byteAt_lt l k
      have hdd : (l.drop (8 * k)).drop 8 = l.drop (8 * (k + 1)) := by rw [List.drop_drop]; congr 1
      rw [List.length_drop] at hsz
      have hszI : ((bitStr (l.drop (8 * k))).size : Int) = (l.length : Int) - 8 * (k : Int) := by rw [hsz]; omega
      have hltI : 8 * (k : Int) < (l.length : Int) := by omega
      by_cases h8 : (l.drop (8 * k)).length ≤ 8
      · have ht : (l.drop (8 * k)).take 8 = l.drop (8 * k) := List.take_of_length_le h8
        rw [ht] at hp
        have h8s : (bitStr (l.drop (8 * k))).size ≤ 8 := by rw [bitStr_size]; exact h8
        have he : (bitStr (l.drop (8 * k))).extract (l.length - 8 * k) (bitStr (l.drop (8 * k))).size = bitStr (l.drop (8 * (k + 1))) := by
          rw [bitStr_extract, bitStr_size, List.take_length, List.drop_drop, List.drop_eq_nil_of_le (by omega), List.drop_eq_nil_of_le (by rw [List.length_drop] at h8; omega)]
        have HE := Lib.hid he
        clear he
        have HB8 := Lib.hid h8
        have HPQ := Lib.hid hp
        clear hp hsz hdd
        go_wp2_with fail
        go_loopg [4] 8 (fun gk p wr1 => wr1 = wr ∧ ∃ q : Nat, Hid ((l.drop (8 * k)).length + q ≤ 8 ∧ gk = 8 - q) ∧ p = .string (bitStr ((l.drop (8 * k)) ++ List.replicate q false)))
        case atStart => exact ⟨rfl, 0, Lib.hid ⟨HB8.out, rfl⟩, by simp⟩
        case round =>
          obtain ⟨rfl, q, hq, rfl⟩ := hrel
          have hs1 : (bitStr ((l.drop (8 * k)) ++ List.replicate q false)).size = (l.drop (8 * k)).length + q := by rw [bitStr_size]; simp
          by_cases hq8 : (l.drop (8 * k)).length + q < 8
          · have hz := bitStr_zero ((l.drop (8 * k)) ++ List.replicate q false)
            rw [List.append_assoc, ← List.replicate_succ'] at hz
            have hI : ((bitStr ((l.drop (8 * k)) ++ List.replicate q false)).size : Int) < 8 := by rw [hs1]; omega
            have hmx : (bitStr ((l.drop (8 * k)) ++ List.replicate q false)).size ≤ 8 := by omega
            generalize bitStr ((l.drop (8 * k)) ++ List.replicate q false) = z at *
            have HZ := Lib.hid hz
            clear hz hs1
            go_wp2_with fail
            go_roundg (8 - (q + 1))
            case rel => exact ⟨rfl, q + 1, Lib.hid ⟨by omega, rfl⟩, by rw [HZ.out]⟩
            case measure => have := hq.out; omega
          · have hq9 : (l.drop (8 * k)).length + q = 8 := by have := hq.out; omega
            have hI : ¬ ((bitStr ((l.drop (8 * k)) ++ List.replicate q false)).size : Int) < 8 := by rw [hs1]; omega
            have hv := HPQ.out q hq9
            have hlen : ((l.drop (8 * k)) ++ List.replicate q false).length ≤ 64 := by simp; omega
            clear hs1
            go_wp2_with fail
            refine (value2_calls hlen).mono ?_
            rintro e w5 ⟨rfl, rfl⟩
            rw [hv]
            have hmod : (byteAt l k : Int) % 256 = (byteAt l k : Int) := by omega
            have h63 : k + 1 ≤ maxLen := by unfold maxLen; omega
            have hby : (k + 1) * 1 ≤ 140737488355328 := by omega
            go_wp2_with ((at_builtin; go_must (refine wpList_append_one rfl (.tmp 24) (.tmp 28) 40 rfl 5 (.int .u8 0) 1 Try.underlying40 info_u8 rfl _ _ _ (u8v (byteAt l k)) rfl rfl Hr rfl h63 hby ?_); intro g2 cap2 w2 H2))
            go_roundg (l.length + 8 - 8 * (k + 1))
            case rel => exact ⟨k + 1, Lib.hid ⟨by omega, rfl⟩, by rw [HE.out], by rw [pkN_succ]; simpa using H2⟩
            case measure => have := hk.out; omega
      · have hge : 8 < (bitStr (l.drop (8 * k))).size := by rw [bitStr_size]; omega
        have hgi : 8 < (l.length : Int) - 8 * (k : Int) := by rw [List.length_drop] at h8; omega
        have e8 : (bitStr (l.drop (8 * k))).extract 0 8 = bitStr ((l.drop (8 * k)).take 8) := by rw [bitStr_extract, List.drop_zero]
        have he : (bitStr (l.drop (8 * k))).extract 8 (bitStr (l.drop (8 * k))).size = bitStr (l.drop (8 * (k + 1))) := by
          rw [bitStr_extract, bitStr_size, List.take_length, hdd]
        have HE := Lib.hid he
        clear he
        have h8 : ((l.drop (8 * k)).take 8).length ≤ 8 := by rw [List.length_take]; omega
        have HB8 := Lib.hid h8
        have HPQ := Lib.hid hp
        have hdz : (bitStr ((l.drop (8 * k)).take 8)).size = 8 := by rw [bitStr_size, List.length_take]; omega
        clear hp hsz hdd h8
        go_wp2_with fail
        go_loopg [4] 8 (fun gk p wr1 => wr1 = wr ∧ ∃ q : Nat, Hid (((l.drop (8 * k)).take 8).length + q ≤ 8 ∧ gk = 8 - q) ∧ p = .string (bitStr ((l.drop (8 * k)).take 8 ++ List.replicate q false)))
        case atStart => exact ⟨rfl, 0, Lib.hid ⟨HB8.out, rfl⟩, by simp⟩
        case round =>
          obtain ⟨rfl, q, hq, rfl⟩ := hrel
          have hs1 : (bitStr ((l.drop (8 * k)).take 8 ++ List.replicate q false)).size = ((l.drop (8 * k)).take 8).length + q := by rw [bitStr_size]; simp
          by_cases hq8 : ((l.drop (8 * k)).take 8).length + q < 8
          · have hz := bitStr_zero ((l.drop (8 * k)).take 8 ++ List.replicate q false)
            rw [List.append_assoc, ← List.replicate_succ'] at hz
            have hI : ((bitStr ((l.drop (8 * k)).take 8 ++ List.replicate q false)).size : Int) < 8 := by rw [hs1]; omega
            have hmx : (bitStr ((l.drop (8 * k)).take 8 ++ List.replicate q false)).size ≤ 8 := by omega
            generalize bitStr ((l.drop (8 * k)).take 8 ++ List.replicate q false) = z at *
            have HZ := Lib.hid hz
            clear hz hs1
            go_wp2_with fail
            go_roundg (8 - (q + 1))
            case rel => exact ⟨rfl, q + 1, Lib.hid ⟨by omega, rfl⟩, by rw [HZ.out]⟩
            case measure => have := hq.out; omega
          · have hq9 : ((l.drop (8 * k)).take 8).length + q = 8 := by have := hq.out; omega
            have hI : ¬ ((bitStr ((l.drop (8 * k)).take 8 ++ List.replicate q false)).size : Int) < 8 := by rw [hs1]; omega
            have hv := HPQ.out q hq9
            have hlen : ((l.drop (8 * k)).take 8 ++ List.replicate q false).length ≤ 64 := by simp; omega
            clear hs1
            go_wp2_with fail
            refine (value2_calls hlen).mono ?_
            rintro e w5 ⟨rfl, rfl⟩
            rw [hv]
            have hmod : (byteAt l k : Int) % 256 = (byteAt l k : Int) := by omega
            have h63 : k + 1 ≤ maxLen := by unfold maxLen; omega
            have hby : (k + 1) * 1 ≤ 140737488355328 := by omega
            go_wp2_with ((at_builtin; go_must (refine wpList_append_one rfl (.tmp 24) (.tmp 28) 40 rfl 5 (.int .u8 0) 1 Try.underlying40 info_u8 rfl _ _ _ (u8v (byteAt l k)) rfl rfl Hr rfl h63 hby ?_); intro g2 cap2 w2 H2))
            go_roundg (l.length + 8 - 8 * (k + 1))
            case rel => exact ⟨k + 1, Lib.hid ⟨by omega, rfl⟩, by rw [HE.out], by rw [pkN_succ]; simpa using H2⟩
            case measure => have := hk.out; omega
    · have hsz0 : (bitStr (l.drop (8 * k))).size = 0 := by rw [bitStr_size, List.length_drop]; omega
      go_wp2_with fail
      go_ret
      have e : k = (pk l).length := by rw [pk_length]; have := hk.out; omega
      subst e
      exact ⟨_, rfl, by simpa [pk, pkN_length] using Hr⟩

theorem rbits_int {v : Value} {bs : List Nat} {n : Nat} {m : Int} {w : World} (hm : m = (n : Int)) (hb : ∀ x ∈ bs, x < 256) (hn : n ≤ 8 * bs.length) (hn2 : n ≤ 1048576) (hrd : RdS w v bs.length 1 (bs.map u8v)) :
    Calls Try.prog 27 #[v, .int .i64 m] w fun e w' => e = .returned (.string (bitStr ((allBits bs).take n))) ∧ w = w' := by
  subst hm; exact rbits_calls hb hn hn2 hrd

end Go.Proofs.Ytmihlbecmagmbaa
