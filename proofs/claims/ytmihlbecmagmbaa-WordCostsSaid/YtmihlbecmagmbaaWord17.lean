/- Reference 22: Grow. -/
import Derived.Test.YtmihlbecmagmbaaWord12
namespace Go.Proofs.Ytmihlbecmagmbaa
open Go.RowKit Go.Shelf

def sumL : List Int → Nat
  | [] => 0
  | n :: L => (n - 2).toNat + sumL L
theorem sumL_mem : ∀ {L : List Int} {n : Int}, n ∈ L → n - 2 ≤ sumL L
  | m :: L, n, h => by
    rcases List.mem_cons.1 h with rfl | h
    · simp only [sumL]; omega
    · have := sumL_mem h
      simp only [sumL]; omega
theorem sumL_len : ∀ {L : List Int}, (∀ n ∈ L, 3 ≤ n) → L.length ≤ sumL L
  | [], _ => Nat.zero_le _
  | n :: L, h => by
    have h1 := h n (List.mem_cons_self ..)
    have h2 := sumL_len (L := L) fun m hm => h m (List.mem_cons_of_mem _ hm)
    simp only [sumL, List.length_cons]; omega
/-- A word that has grown so far: what loops are still missing. -/
def Grows (wl : List UInt8) (L : List Int) : Prop := st wl L = some [3] ∧ goodB wl L = true ∧ ∀ n ∈ L, 3 ≤ n
theorem Grows.step {wl : List UInt8} {n : Int} {r L : List Int} {c : UInt8} {k : Lt} (h : Grows wl (n :: r)) (hk : kindOf c = some k) (hs : stepI k L = some (n :: r)) (hL : ∀ m ∈ L, 3 ≤ m) : Grows (wl ++ [c]) L := by
  obtain ⟨h1, h2, h3⟩ := h
  have hc : st [c] L = some (n :: r) := st_cons.2 ⟨k, L, hk, rfl, hs⟩
  refine ⟨?_, ?_, hL⟩
  · rw [st_append, hc]; exact h1
  · rw [goodB_append _ _ _ _ hc, h2, Bool.and_true]
    exact good_cons.2 ⟨rfl, n, r, hc, h3 n (List.mem_cons_self ..)⟩

set_option maxRecDepth 100000 in
set_option maxHeartbeats 8000000 in
theorem rgrow_calls {v : Value} {xs : List Int} {R : List HP} {w : World} (hx : ∀ x ∈ xs, 0 ≤ x ∧ x < 1000) (hlen : xs.length ≤ 60) (hrd : Reads R v xs.length 1 (xs.map iv)) (H : Sep w R) :
    Calls Try.prog 39 #[v] w (Gives fun r w' => (∃ l : List UInt8, r = .string (str l) ∧ rightB l = true ∧ l.length ≤ 2 * xs.length + 1) ∧ Sep w' R) := by
  have HRD := Lib.hid hrd
  have HX := Lib.hid hx
  obtain ⟨va, vc, rfl⟩ := (hrd _ H).form
  clear hrd hx
  have HE : Sep (w.alloc (.cells #[.int .i64 3] 3)) (HP.row 3 1 (.slice (some ⟨w.heap.size, 0, none⟩) 1 1) 1 [.int .i64 3] :: R) :=
    Sep.row_shut (H.alloc #[.int .i64 3] 3) (Nat.le_refl _) (by unfold maxLen; omega) rfl rfl
  go_enter Try.func39, Try.ntmps39
  go_wp2_with fail
  go_loopg [3, 4, 5] (2 * xs.length + 1) (fun gk wv lp i wr => ∃ (wl : List UInt8) (L : List Int) (t : Nat), Hid (Grows wl L) ∧ Hid (gk = 2 * (xs.length - t) + sumL L ∧ wl.length + gk ≤ 2 * xs.length + 1 ∧ t ≤ 200 - gk) ∧ wv = .string (str wl) ∧ i = .int .i64 (t : Int) ∧ Sep wr (HP.row 3 1 lp L.length (L.reverse.map iv) :: R))
  case atStart => exact ⟨[], [3], 0, Lib.hid ⟨rfl, rfl, by simp⟩, Lib.hid ⟨by simp [sumL], by simp, by omega⟩, rfl, rfl, HE⟩
  case round =>
    clear HE H
    obtain ⟨wl, L, t, hg, hq, rfl, rfl, Hr⟩ := hrel
    obtain ⟨q1, q2, q3⟩ := hq.out
    clear hq
    cases L with
    | nil =>
      have hr : rightB wl = true := rightB_iff.2 ⟨hg.out.1, hg.out.2.1⟩
      obtain ⟨la, lc, rfl⟩ := Hr.row_form
      have HRR := Lib.hid hr
      clear hr
      go_wp2_with fail
      go_ret
      exact ⟨_, rfl, ⟨wl, rfl, HRR.out, by omega⟩, Hr.tail⟩
    | cons n r =>
      have hn3 := hg.out.2.2 n (List.mem_cons_self ..)
      have hr3 : ∀ m ∈ r, 3 ≤ m := fun m hm => hg.out.2.2 m (List.mem_cons_of_mem _ hm)
      have hrl := sumL_len hr3
      simp only [sumL] at q1
      obtain ⟨g, cap, _, he, hnc, _⟩ := Hr.row_open (by simp)
      subst he
      rw [List.length_cons] at Hr hnc
      have c0 := Hr.row_cell r.length (u := .int .i64 n) (by simp [iv])
      have Hp := Hr.row_pop
      have htk : ((n :: r).reverse.map iv).take (r.length * 1) = r.reverse.map iv := by
        rw [Nat.mul_one, List.reverse_cons, List.map_append, List.take_append_of_le_length (by simp), List.take_of_length_le (by simp)]
      rw [htk] at Hp
      have hwl := str_size wl
      have hsz : (str wl).size ≤ 200 := by omega
      have hpos : (0 : Int) < (r.length : Int) + 1 := by omega
      have hi1 : (r.length : Int) + 1 - 1 = (r.length : Int) := by omega
      have hi2 : (r.length : Int) < (r.length : Int) + 1 := by omega
      have hcp : (r.length : Int) ≤ (cap : Int) := by omega
      have hm5 : ∀ y : Int, (y :: r).reverse.map iv = r.reverse.map iv ++ [.int .i64 y] := fun y => by simp [iv]
      have hm6 : ∀ y z : Int, (z :: y :: r).reverse.map iv = (r.reverse.map iv ++ [.int .i64 y]) ++ [.int .i64 z] := fun y z => by simp [iv]
      have HM := Lib.hid hm5
      have HM2 := Lib.hid hm6
      have hcat : ∀ c : UInt8, str (wl ++ [c]) = str wl ++ str [c] := fun c => (str_append _ _).symm
      have HCT := Lib.hid hcat
      have h63 : r.length + 1 ≤ maxLen := by simp only [maxLen]; omega
      have hby : (r.length + 1) * 8 ≤ 140737488355328 := by omega
      have h63' : r.length + 1 + 1 ≤ maxLen := by simp only [maxLen]; omega
      have hby' : (r.length + 1 + 1) * 8 ≤ 140737488355328 := by omega
      clear hm5 hm6 hcat htk
      by_cases ht : t < xs.length
      · have htI : (t : Int) < (xs.length : Int) := by omega
        have hkb := HX.out _ (List.getElem_mem ht)
        have hrw := HRD.out _ Hr.tail
        obtain ⟨g2, o2, c2, he⟩ := hrw.open (by omega)
        simp only [Value.slice.injEq, true_and] at he
        obtain ⟨rfl, rfl⟩ := he
        have k0 := hrw.cell t (iv_get ht)
        generalize xs[t] = kv at *
        clear hrw
        by_cases hC : kv % 5 < 2
        · have d1 : decide (kv % 5 < 2) = true := decide_eq_true hC
          go_wp2_with ((at_builtin; go_must (refine wpList_append_one rfl (.tmp 45) (.tmp 48) 25 rfl 3 (.int .i64 0) 8 Try.underlying25 info_iv rfl (.slice (some ⟨g, 0, none⟩) r.length cap) r.length _ (.int .i64 (n + 1)) rfl rfl Hp rfl h63 hby ?_); intro g7 c7 w7 H7))
          rw [← HM.out] at H7
          go_roundg (2 * (xs.length - (t + 1)) + sumL ((n + 1) :: r))
          case rel => exact ⟨wl ++ [67], (n + 1) :: r, t + 1, Lib.hid (hg.out.step (k := .C) (by rfl) (by simp [stepI]) (by intro m hm; rcases List.mem_cons.1 hm with rfl | hm; (· omega); exact hr3 m hm)), Lib.hid ⟨rfl, by simp only [sumL, List.length_append, List.length_cons, List.length_nil] at *; omega, by simp only [sumL] at *; omega⟩, by rw [HCT.out]; rfl, by go_num, H7⟩
          case measure => simp only [sumL] at *; omega
        · have d1 : decide (kv % 5 < 2) = false := decide_eq_false hC
          by_cases hn : n = 3
          · subst hn
            go_wp2_with fail
            go_roundg (2 * (xs.length - (t + 1)) + sumL r)
            case rel => exact ⟨wl ++ [69], r, t + 1, Lib.hid (hg.out.step (k := .E) (by rfl) (by simp [stepI]) hr3), Lib.hid ⟨rfl, by simp only [List.length_append, List.length_cons, List.length_nil] at *; omega, by omega⟩, by rw [HCT.out]; rfl, by go_num, Hp⟩
            case measure => omega
          · have e1 : (n == 3) = false := by simp [hn]
            by_cases hS : kv % 5 = 2 ∧ 5 ≤ n
            · have d3 : (kv % 5 == 2) = true := by simp [hS.1]
              have d4 : decide (5 ≤ n) = true := decide_eq_true hS.2
              obtain ⟨x, hxd⟩ : ∃ x : Int, 3 + kv / 5 % (n - 4) = x := ⟨_, rfl⟩
              have hx1 : 0 ≤ kv / 5 % (n - 4) := Int.emod_nonneg _ (by omega)
              have hx2 : kv / 5 % (n - 4) < n - 4 := Int.emod_lt_of_pos _ (by omega)
              have hxa : 3 ≤ x := by omega
              have hxb : x ≤ n - 2 := by omega
              go_wp2_with (at_builtin; first | (refine wpList_append_one rfl (.tmp 69) (.tmp 74) 25 rfl 3 (.int .i64 0) 8 Try.underlying25 info_iv rfl (.slice (some ⟨g, 0, none⟩) r.length cap) r.length _ (.int .i64 (n + 1 - x)) rfl rfl Hp rfl h63 hby ?_; intro g7 c7 w7 H7) | (refine wpList_append_one rfl (.tmp 75) (.tmp 77) 25 rfl 3 (.int .i64 0) 8 Try.underlying25 info_iv rfl (.slice (some ⟨g7, 0, none⟩) (r.length + 1) c7) (r.length + 1) _ (.int .i64 (x)) rfl rfl H7 rfl h63' hby' ?_; intro g8 c8 w8 H8))
              rw [← HM2.out] at H8
              go_roundg (2 * (xs.length - (t + 1)) + sumL (x :: (n + 1 - x) :: r))
              case rel => exact ⟨wl ++ [83], x :: (n + 1 - x) :: r, t + 1, Lib.hid (hg.out.step (k := .S) (by rfl) (by simp [stepI]; omega) (by intro m hm; rcases List.mem_cons.1 hm with rfl | hm; (· omega); rcases List.mem_cons.1 hm with rfl | hm; (· omega); exact hr3 m hm)), Lib.hid ⟨rfl, by simp only [sumL, List.length_append, List.length_cons, List.length_nil] at *; omega, by simp only [sumL] at *; omega⟩, by rw [HCT.out]; rfl, by go_num, H8⟩
              case measure => simp only [sumL] at *; omega
            · by_cases hS1 : kv % 5 = 2
              · have d3 : (kv % 5 == 2) = true := by simp [hS1]
                have d4 : decide (5 ≤ n) = false := decide_eq_false (fun h => hS ⟨hS1, h⟩)
                by_cases h2 : kv % 2 = 0
                · have d2 : (kv % 2 == 0) = true := by simp [h2]
                  go_wp2_with ((at_builtin; go_must (refine wpList_append_one rfl (.tmp 86) (.tmp 89) 25 rfl 3 (.int .i64 0) 8 Try.underlying25 info_iv rfl (.slice (some ⟨g, 0, none⟩) r.length cap) r.length _ (.int .i64 (n - 1)) rfl rfl Hp rfl h63 hby ?_); intro g7 c7 w7 H7))
                  rw [← HM.out] at H7
                  go_roundg (2 * (xs.length - (t + 1)) + sumL ((n - 1) :: r))
                  case rel => exact ⟨wl ++ [76], (n - 1) :: r, t + 1, Lib.hid (hg.out.step (k := .L) (by rfl) (by simp [stepI]) (by intro m hm; rcases List.mem_cons.1 hm with rfl | hm; (· omega); exact hr3 m hm)), Lib.hid ⟨rfl, by simp only [sumL, List.length_append, List.length_cons, List.length_nil] at *; omega, by simp only [sumL] at *; omega⟩, by rw [HCT.out]; rfl, by go_num, H7⟩
                  case measure => simp only [sumL] at *; omega
                · have d2 : (kv % 2 == 0) = false := by simp [h2]
                  go_wp2_with ((at_builtin; go_must (refine wpList_append_one rfl (.tmp 86) (.tmp 89) 25 rfl 3 (.int .i64 0) 8 Try.underlying25 info_iv rfl (.slice (some ⟨g, 0, none⟩) r.length cap) r.length _ (.int .i64 (n - 1)) rfl rfl Hp rfl h63 hby ?_); intro g7 c7 w7 H7))
                  rw [← HM.out] at H7
                  go_roundg (2 * (xs.length - (t + 1)) + sumL ((n - 1) :: r))
                  case rel => exact ⟨wl ++ [82], (n - 1) :: r, t + 1, Lib.hid (hg.out.step (k := .R) (by rfl) (by simp [stepI]) (by intro m hm; rcases List.mem_cons.1 hm with rfl | hm; (· omega); exact hr3 m hm)), Lib.hid ⟨rfl, by simp only [sumL, List.length_append, List.length_cons, List.length_nil] at *; omega, by simp only [sumL] at *; omega⟩, by rw [HCT.out]; rfl, by go_num, H7⟩
                  case measure => simp only [sumL] at *; omega
              · have d3 : (kv % 5 == 2) = false := by simp [hS1]
                by_cases h2 : kv % 2 = 0
                · have d2 : (kv % 2 == 0) = true := by simp [h2]
                  go_wp2_with ((at_builtin; go_must (refine wpList_append_one rfl (.tmp 86) (.tmp 89) 25 rfl 3 (.int .i64 0) 8 Try.underlying25 info_iv rfl (.slice (some ⟨g, 0, none⟩) r.length cap) r.length _ (.int .i64 (n - 1)) rfl rfl Hp rfl h63 hby ?_); intro g7 c7 w7 H7))
                  rw [← HM.out] at H7
                  go_roundg (2 * (xs.length - (t + 1)) + sumL ((n - 1) :: r))
                  case rel => exact ⟨wl ++ [76], (n - 1) :: r, t + 1, Lib.hid (hg.out.step (k := .L) (by rfl) (by simp [stepI]) (by intro m hm; rcases List.mem_cons.1 hm with rfl | hm; (· omega); exact hr3 m hm)), Lib.hid ⟨rfl, by simp only [sumL, List.length_append, List.length_cons, List.length_nil] at *; omega, by simp only [sumL] at *; omega⟩, by rw [HCT.out]; rfl, by go_num, H7⟩
                  case measure => simp only [sumL] at *; omega
                · have d2 : (kv % 2 == 0) = false := by simp [h2]
                  go_wp2_with ((at_builtin; go_must (refine wpList_append_one rfl (.tmp 86) (.tmp 89) 25 rfl 3 (.int .i64 0) 8 Try.underlying25 info_iv rfl (.slice (some ⟨g, 0, none⟩) r.length cap) r.length _ (.int .i64 (n - 1)) rfl rfl Hp rfl h63 hby ?_); intro g7 c7 w7 H7))
                  rw [← HM.out] at H7
                  go_roundg (2 * (xs.length - (t + 1)) + sumL ((n - 1) :: r))
                  case rel => exact ⟨wl ++ [82], (n - 1) :: r, t + 1, Lib.hid (hg.out.step (k := .R) (by rfl) (by simp [stepI]) (by intro m hm; rcases List.mem_cons.1 hm with rfl | hm; (· omega); exact hr3 m hm)), Lib.hid ⟨rfl, by simp only [sumL, List.length_append, List.length_cons, List.length_nil] at *; omega, by simp only [sumL] at *; omega⟩, by rw [HCT.out]; rfl, by go_num, H7⟩
                  case measure => simp only [sumL] at *; omega
      · have htI : ¬ (t : Int) < (xs.length : Int) := by omega
        by_cases hn : n = 3
        · subst hn
          go_wp2_with fail
          go_roundg (2 * (xs.length - (t + 1)) + sumL r)
          case rel => exact ⟨wl ++ [69], r, t + 1, Lib.hid (hg.out.step (k := .E) (by rfl) (by simp [stepI]) hr3), Lib.hid ⟨rfl, by simp only [List.length_append, List.length_cons, List.length_nil] at *; omega, by omega⟩, by rw [HCT.out]; rfl, by go_num, Hp⟩
          case measure => omega
        · have e1 : (n == 3) = false := by simp [hn]
          go_wp2_with ((at_builtin; go_must (refine wpList_append_one rfl (.tmp 86) (.tmp 89) 25 rfl 3 (.int .i64 0) 8 Try.underlying25 info_iv rfl (.slice (some ⟨g, 0, none⟩) r.length cap) r.length _ (.int .i64 (n - 1)) rfl rfl Hp rfl h63 hby ?_); intro g7 c7 w7 H7))
          rw [← HM.out] at H7
          go_roundg (2 * (xs.length - (t + 1)) + sumL ((n - 1) :: r))
          case rel => exact ⟨wl ++ [76], (n - 1) :: r, t + 1, Lib.hid (hg.out.step (k := .L) (by rfl) (by simp [stepI]) (by intro m hm; rcases List.mem_cons.1 hm with rfl | hm; (· omega); exact hr3 m hm)), Lib.hid ⟨rfl, by simp only [sumL, List.length_append, List.length_cons, List.length_nil] at *; omega, by simp only [sumL] at *; omega⟩, by rw [HCT.out]; rfl, by go_num, H7⟩
          case measure => simp only [sumL] at *; omega

end Go.Proofs.Ytmihlbecmagmbaa
