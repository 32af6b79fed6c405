/- order: After, numbers; slices: BinarySearch. -/
import Derived.Test.YticeolbagfaofaaOrd2
namespace Go.Proofs.Yticeolbagfaofaa
open Go.RowKit

set_option maxRecDepth 100000 in
set_option maxHeartbeats 1000000 in
theorem numbers_calls {n : Nat} {R : List HP} {w : World} (hn : n ≤ 100000) (H : Sep w R) :
    Calls Try.prog 28 #[.int .i64 (n : Int)] w (Gives fun r w' => Sep w' (HP.row 3 1 r n ((numsL n).map iv) :: R)) := by
  go_enter Try.func28, Try.ntmps28
  go_wp2_with fail
  go_loopg [3, 4, 6] n (fun gk o _ i wr => ∃ t : Nat, Hid (t ≤ n ∧ gk = n - t) ∧ i = .int .i64 (t : Int) ∧ Sep wr (HP.row 3 1 o t ((numsL t).map iv) :: R))
  case atStart => exact ⟨0, Lib.hid ⟨by omega, rfl⟩, rfl, H.row_nil _ _⟩
  case round =>
    clear H
    obtain ⟨t, hq, rfl, Hr⟩ := hrel
    obtain ⟨q1, q2⟩ := hq.out
    clear hq
    obtain ⟨oa, oc, rfl⟩ := Hr.row_form
    by_cases c : t < n
    · have h63 : t + 1 ≤ maxLen := by unfold maxLen; omega
      have hby : (t + 1) * 8 ≤ 140737488355328 := by omega
      have hm : (numsL t).map iv ++ [.int .i64 (t : Int)] = (numsL (t + 1)).map iv := by rw [numsL_succ, List.map_append]; rfl
      have HM := Lib.hid hm
      clear hm
      go_wp2_with ((at_builtin; go_must (refine wpList_append_one rfl (.tmp 9) (.tmp 11) 22 rfl 3 (.int .i64 0) 8 Try.underlying22 info_iv rfl (.slice oa t oc) t _ (.int .i64 (t : Int)) rfl rfl Hr rfl h63 hby ?_); intro g7 c7 w7 H7; rw [HM.out] at H7))
      go_roundg (n - (t + 1))
      case rel => exact ⟨t + 1, Lib.hid ⟨by omega, rfl⟩, by go_num, H7⟩
      case measure => omega
    · obtain rfl : t = n := by omega
      go_wp2_with fail
      go_ret
      exact ⟨_, rfl, Hr⟩

theorem cnan_calls {x : Int} {w : World} : Calls Try.prog 42 #[.int .i64 x] w fun e w' => e = .returned (.bool false) ∧ w = w' := by
  go_enter Try.func42, Try.ntmps42
  go_wp2_with fail
  go_ret
  exact ⟨rfl, rfl⟩

theorem less_calls {x y : Int} {w : World} : Calls Try.prog 37 #[.int .i64 x, .int .i64 y] w fun e w' => e = .returned (.bool (decide (x < y))) ∧ w = w' := by
  go_enter Try.func37, Try.ntmps37
  go_wp2_with fail
  refine cnan_calls.mono ?_
  rintro e w1 ⟨rfl, rfl⟩
  go_wp2_with fail
  go_ret
  exact ⟨rfl, rfl⟩

theorem sorted_lt {L : List Int} (hs : L.Pairwise (· < ·)) {h k : Nat} (hh : h < L.length) (hk : k < L.length) : L[h] < L[k] ↔ h < k := by
  have := List.pairwise_iff_getElem.1 hs
  constructor
  · intro hlt
    apply Nat.lt_of_not_le
    intro hc
    by_cases e : k = h
    · subst e; omega
    · have := this k h hk hh (by omega)
      omega
  · intro hlt
    exact this h k hh hk hlt

set_option maxRecDepth 100000 in
set_option maxHeartbeats 1000000 in
theorem bsearch_calls {v : Value} {L : List Int} {x : Int} {k : Nat} {w : World} (hlen : L.length ≤ 100000) (hs : L.Pairwise (· < ·)) (hk : L[k]? = some x) (hrd : RdS w v L.length 1 (L.map iv)) :
    Calls Try.prog 29 #[v, .int .i64 x] w fun e w' => e = .returned (.tuple #[.int .i64 (k : Int), .bool true]) ∧ w = w' := by
  have hkl : k < L.length := by
    apply Nat.lt_of_not_le
    intro hc
    rw [List.getElem?_eq_none hc] at hk; cases hk
  have hkx : L[k] = x := by rw [List.getElem?_eq_getElem hkl] at hk; simpa using hk
  obtain ⟨g, o, cap, rfl⟩ := hrd.open (by omega)
  have HRD := Lib.hid hrd
  have c1 : w.cell? ⟨g, o + k, none⟩ = some (.int .i64 x) := hrd.cell k (by rw [List.getElem?_map, hk]; rfl)
  have HLT : Hid (∀ h (hh : h < L.length), L[h] < x ↔ h < k) := Lib.hid fun h hh => by rw [← hkx]; exact sorted_lt hs hh hkl
  clear hs hk hkx hrd
  go_enter Try.func29, Try.ntmps29
  go_wp2_with fail
  go_loopg [7, 8, 9] L.length (fun gk i j _ wr => wr = w ∧ ∃ a b : Nat, Hid (a ≤ k ∧ k ≤ b ∧ b ≤ L.length ∧ gk = b - a) ∧ i = .int .i64 (a : Int) ∧ j = .int .i64 (b : Int))
  case atStart => exact ⟨rfl, 0, L.length, Lib.hid ⟨by omega, by omega, by omega, rfl⟩, rfl, rfl⟩
  case round =>
    obtain ⟨rfl, a, b, hq, rfl, rfl⟩ := hrel
    obtain ⟨q1, q2, q3, q4⟩ := hq.out
    clear hq
    by_cases c : a < b
    · have hhl : (a + b) / 2 < L.length := by omega
      have c2 : wr.cell? ⟨g, o + (a + b) / 2, none⟩ = some (.int .i64 L[(a + b) / 2]) := HRD.out.cell _ (iv_get hhl)
      have hlt := HLT.out _ hhl
      generalize L[(a + b) / 2] = y at c2 hlt
      have hI0 : (0 : Int) ≤ ((a : Int) + (b : Int)) / 2 := by omega
      have hI1 : ((a : Int) + (b : Int)) / 2 < (L.length : Int) := by omega
      by_cases cm : (a + b) / 2 < k
      · have cy : y < x := hlt.2 cm
        have d1 : decide (y < x) = true := decide_eq_true cy
        clear hlt
        go_wp2_with fail
        refine less_calls.mono ?_
        rintro e w1 ⟨rfl, rfl⟩
        rw [d1]
        go_wp2_with fail
        go_roundg (b - ((a + b) / 2 + 1))
        case rel => exact ⟨rfl, (a + b) / 2 + 1, b, Lib.hid ⟨by omega, by omega, by omega, rfl⟩, by go_num, rfl⟩
        case measure => omega
      · have d1 : decide (y < x) = false := decide_eq_false (fun hc => cm (hlt.1 hc))
        clear hlt
        go_wp2_with fail
        refine less_calls.mono ?_
        rintro e w1 ⟨rfl, rfl⟩
        rw [d1]
        go_wp2_with fail
        go_roundg ((a + b) / 2 - a)
        case rel => exact ⟨rfl, a, (a + b) / 2, Lib.hid ⟨by omega, by omega, by omega, rfl⟩, rfl, by go_num⟩
        case measure => omega
    · obtain rfl : a = k := by omega
      go_wp2_with fail
      go_ret2
      exact ⟨rfl, rfl⟩

end Go.Proofs.Yticeolbagfaofaa
