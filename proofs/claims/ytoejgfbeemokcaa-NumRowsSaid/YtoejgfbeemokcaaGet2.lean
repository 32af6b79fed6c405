/- Reference 02: a long form read. -/
import Derived.Test.YtoejgfbeemokcaaNumGet
namespace Go.Proofs.Ytoejgfbeemokcaa
open Go.RowKit

theorem getElem_getD {l : List Bool} {t : Nat} (h : t < l.length) : l.getD t false = l[t] := by
  rw [List.getD, List.getElem?_eq_getElem h]; rfl

theorem getN_size (l : List Bool) : (getN l).2.1 ≤ l.length := by
  unfold getN
  split
  · exact Nat.zero_le _
  split
  · exact Nat.zero_le _
  split
  · exact Nat.zero_le _
  · show 2 * leadN l + 1 ≤ l.length
    omega

set_option maxRecDepth 100000 in
set_option maxHeartbeats 1000000 in
theorem rget2_calls {l : List Bool} (hl : l.length ≤ 33554432) {w : World} :
    Calls Try.prog 55 #[.string (bitStr l)] w fun e w' => e = .returned (.tuple #[.int .u64 ((getN l).1 : Int), .int .i64 ((getN l).2.1 : Int), .int .i64 ((getN l).2.2 : Int)]) ∧ w = w' := by
  have hsz := bitStr_size l
  go_enter Try.func55, Try.ntmps55
  go_wp2_with fail
  go_loopg [5] 33 (fun gk k wr => wr = w ∧ ∃ t : Nat, Hid (t ≤ 32 ∧ t ≤ l.length ∧ gk = 33 - t ∧ ∀ j, j < t → l.getD j false = false) ∧ k = .int .i64 (t : Int))
  case atStart => exact ⟨rfl, 0, Lib.hid ⟨by omega, by omega, rfl, fun j h => absurd h (by omega)⟩, rfl⟩
  case round =>
    obtain ⟨rfl, t, hq, rfl⟩ := hrel
    obtain ⟨q1, q2, q3, q4⟩ := hq.out
    clear hq
    have Q4 := Lib.hid q4
    clear q4
    by_cases c : t < l.length
    · have hi : (t : Int) < ((bitStr l).size : Int) := by rw [hsz]; omega
      have hk2 : t < (bitStr l).size := by omega
      have hone := bitStr_one c hk2
      have HG := Lib.hid (getElem_getD c)
      cases hb : l[t] with
      | false =>
        rw [hb] at hone HG
        clear hb
        have HN : Hid (∀ j, j < t + 1 → l.getD j false = false) := Lib.hid fun j h => by
          by_cases cj : j < t
          · exact Q4.out j cj
          · have : j = t := by omega
            subst this; exact HG.out
        by_cases c2 : 32 ≤ t
        · have H33 := Lib.hid (show getN l = (0, 0, 3) by
            unfold getN; rw [if_pos (leadN_ge (by omega) (fun j h => HN.out j (by omega)))])
          go_wp2_with fail
          go_ret3
          rw [H33.out]
          exact ⟨rfl, rfl⟩
        · go_wp2_with fail
          go_roundg (33 - (t + 1))
          case rel => exact ⟨rfl, t + 1, Lib.hid ⟨by omega, by omega, rfl, HN.out⟩, by go_num⟩
          case measure => omega
      | true =>
        rw [hb] at hone HG
        clear hb
        have HL := Lib.hid (leadN_eq Q4.out HG.out)
        by_cases c3 : l.length < 2 * t + 1
        · have H4 := Lib.hid (show getN l = (0, 0, 4) by unfold getN; rw [HL.out, if_neg (by omega), if_pos c3])
          go_wp2_with fail
          go_ret3
          rw [H4.out]
          exact ⟨rfl, rfl⟩
        · have he : (bitStr l).extract t (2 * t + 1) = bitStr ((l.drop t).take (t + 1)) := by
            rw [bitStr_extract, List.drop_take]; congr 2; omega
          have htl : ((l.drop t).take (t + 1)).length ≤ 64 := by rw [List.length_take]; omega
          have h3 : ofBits ((l.drop t).take (t + 1)) < 8589934592 := by
            have := ofBits_lt ((l.drop t).take (t + 1))
            have h4 : ((l.drop t).take (t + 1)).length ≤ 33 := by rw [List.length_take]; omega
            exact Nat.lt_of_lt_of_le this (Nat.le_trans (Nat.pow_le_pow_right (by omega) h4) (by decide))
          have h4 : 1 ≤ ofBits ((l.drop t).take (t + 1)) := ofBits_pos c HG.out t (by omega)
          have HV := Lib.hid (fun (w1 : World) => value2_calls htl (w := w1))
          have HGN := Lib.hid (show getN l = if 4294967297 < ofBits ((l.drop t).take (t + 1)) then (0, 0, 3) else (ofBits ((l.drop t).take (t + 1)) - 1, 2 * t + 1, 0) by
            unfold getN; rw [HL.out, if_neg (by omega), if_neg c3])
          generalize ofBits ((l.drop t).take (t + 1)) = V at *
          generalize (l.drop t).take (t + 1) = TT at *
          clear htl
          go_wp2_with fail
          refine (HV.out _).mono ?_
          rintro e w4 ⟨rfl, rfl⟩
          by_cases c4 : 4294967297 < V
          · have H5 := HGN.out
            rw [if_pos c4] at H5
            have H5 := Lib.hid H5
            go_wp2_with fail
            go_ret3
            rw [H5.out]
            exact ⟨rfl, rfl⟩
          · have H5 := HGN.out
            rw [if_neg c4] at H5
            have H5 := Lib.hid H5
            go_wp2_with fail
            go_ret3
            rw [H5.out]
            exact ⟨by go_num, rfl⟩
    · have hi : ¬ (t : Int) < ((bitStr l).size : Int) := by rw [hsz]; omega
      have H4 := Lib.hid (show getN l = (0, 0, 4) by
        have hn := leadN_none (l := l) (fun j h => Q4.out j (by omega))
        unfold getN; rw [hn, if_neg (by omega), if_pos (by omega)])
      go_wp2_with fail
      go_ret3
      rw [H4.out]
      exact ⟨rfl, rfl⟩

end Go.Proofs.Ytoejgfbeemokcaa
