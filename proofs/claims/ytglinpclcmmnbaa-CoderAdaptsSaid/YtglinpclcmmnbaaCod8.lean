/- coder: awake. -/
import Derived.Test.YtglinpclcmmnbaaCod7
namespace Go.Proofs.Ytglinpclcmmnbaa
open Go.RowKit Go.Shelf

theorem code_a {u : Value} {c : List Nat} (h : IsCode ((runI firstI [(u, [1, 1, 2], 0), (u, [1, 1, 2], 0)]).1 + 4) (runI firstI [(u, [1, 1, 2], 0), (u, [1, 1, 2], 0)]).2.1 (runI firstI [(u, [1, 1, 2], 0), (u, [1, 1, 2], 0)]).2.2 c) : c = [] := by
  have e : runI firstI [(u, [1, 1, 2], 0), (u, [1, 1, 2], 0)] = (0, 0, 268435456) := by
    show stepI (stepI firstI [1, 1, 2] ((0 : Int).toNat)) [1, 1, 2] ((0 : Int).toNat) = _
    decide +kernel
  rw [e] at h
  exact h.uniq ⟨0, by decide, fun j hj => absurd hj (by omega), by decide +kernel, rfl⟩
theorem code_b {u : Value} {c : List Nat} (h : IsCode ((runI firstI [(u, [1, 1, 2], 2)]).1 + 4) (runI firstI [(u, [1, 1, 2], 2)]).2.1 (runI firstI [(u, [1, 1, 2], 2)]).2.2 c) : c = [128] := by
  have e : runI firstI [(u, [1, 1, 2], 2)] = (0, 2147483648, 2147483648) := by
    show stepI firstI [1, 1, 2] ((2 : Int).toNat) = _
    decide +kernel
  rw [e] at h
  exact h.uniq ⟨1, by decide, by decide +kernel, by decide +kernel, by decide +kernel⟩
theorem code_d {u : Value} {c : List Nat} (h : IsCode ((runI firstI [(u, [1, 1, 2], 1), (u, [1, 1, 2], 0)]).1 + 4) (runI firstI [(u, [1, 1, 2], 1), (u, [1, 1, 2], 0)]).2.1 (runI firstI [(u, [1, 1, 2], 1), (u, [1, 1, 2], 0)]).2.2 c) : c = [64] := by
  have e : runI firstI [(u, [1, 1, 2], 1), (u, [1, 1, 2], 0)] = (0, 1073741824, 268435456) := by
    show stepI (stepI firstI [1, 1, 2] ((1 : Int).toNat)) [1, 1, 2] ((0 : Int).toNat) = _
    decide +kernel
  rw [e] at h
  exact h.uniq ⟨1, by decide, by decide +kernel, by decide +kernel, by decide +kernel⟩
theorem stp_rd {F : List HP} {v : Value} {its : List Stp} {n : Nat} (hn : n = its.length) (he : ∀ p ∈ its, Reads F p.1 p.2.1.length 1 (p.2.1.map iv)) : StpRd (HP.row 58 2 v n (stpCells its) :: F) v its := by
  subst hn
  exact ⟨Reads.row, fun p hp => (he p hp).cons⟩

set_option maxRecDepth 100000 in
set_option maxHeartbeats 4000000 in
theorem awake4 {F : List HP} {w : World} (H : Sep w F) : Calls Try.prog 34 #[] w fun e w' => e = .returned (.bool true) ∧ Sep w' F := by
  have H1 : Sep (w.alloc (.cells #[.int .i64 1, .int .i64 1, .int .i64 2] 3)) (HP.row 3 1 (.slice (some ⟨w.heap.size, 0, none⟩) 3 3) 3 (([1, 1, 2] : List Int).map iv) :: F) :=
    Sep.row_shut (H.alloc #[.int .i64 1, .int .i64 1, .int .i64 2] 3) (Nat.le_refl _) (by unfold maxLen; omega) rfl rfl
  have hv : Vt [1, 1, 2] := tabErr_ok (by decide)
  have hR0 : RightS [1, 1, 2] 0 := by decide
  have hR1 : RightS [1, 1, 2] 1 := by decide
  have hR2 : RightS [1, 1, 2] 2 := by decide
  go_enter Try.func34, Try.ntmps34
  go_wp2_with fail
  clear H
  have hz1 : (w.alloc (.cells #[.int .i64 1, .int .i64 1, .int .i64 2] 3)).heap.size = w.heap.size + 1 := World.size_alloc _ _
  generalize w.alloc (.cells #[.int .i64 1, .int .i64 1, .int .i64 2] 3) = W1 at *
  generalize w.heap.size = pu at *
  have H2 := H1.alloc #[.slice (some ⟨pu, 0, none⟩) 3 3, .int .i64 0, .slice (some ⟨pu, 0, none⟩) 3 3, .int .i64 0] 58
  rw [hz1] at H2
  clear hz1
  have H3 : Sep _ (HP.row 58 2 (.slice (some ⟨pu + 1, 0, none⟩) 2 2) 2 (stpCells [(.slice (some ⟨pu, 0, none⟩) 3 3, [1, 1, 2], 0), (.slice (some ⟨pu, 0, none⟩) 3 3, [1, 1, 2], 0)]) :: HP.row 3 1 (.slice (some ⟨pu, 0, none⟩) 3 3) 3 (([1, 1, 2] : List Int).map iv) :: F) := Sep.row_shut H2 (Nat.le_refl _) (by unfold maxLen; omega) rfl rfl
  refine (code_calls (by simp) (by simp; exact hR0) (stp_rd rfl (by intro p hp; simp at hp; subst hp; exact Reads.row)) H3).mono ?_
  rintro _ W2 ⟨_, rfl, u1, c1, rfl, hc1, H4⟩
  obtain rfl := code_a hc1
  have H5 := H4.swap.tail
  clear H1 H2 H3 H4 hc1
  go_wp2_with fail
  have H6 := H5.swap.alloc #[.slice (some ⟨pu, 0, none⟩) 3 3, .int .i64 2] 58
  have H7 : Sep _ (HP.row 58 2 (.slice (some ⟨W2.heap.size, 0, none⟩) 1 1) 1 (stpCells [(.slice (some ⟨pu, 0, none⟩) 3 3, [1, 1, 2], 2)]) :: HP.row 3 1 (.slice (some ⟨pu, 0, none⟩) 3 3) 3 (([1, 1, 2] : List Int).map iv) :: _) := Sep.row_shut H6 (Nat.le_refl _) (by unfold maxLen; omega) rfl rfl
  refine (code_calls (by simp) (by simp; exact hR2) (stp_rd rfl (by intro p hp; simp at hp; subst hp; exact Reads.row)) H7).mono ?_
  rintro _ W3 ⟨_, rfl, u2, c2, rfl, hc2, H8⟩
  obtain rfl := code_b hc2
  have H9 := H8.swap.tail
  clear H5 H6 H7 H8 hc2
  go_wp2_with fail
  have H6 := H9.swap.alloc #[.slice (some ⟨pu, 0, none⟩) 3 3, .int .i64 1, .slice (some ⟨pu, 0, none⟩) 3 3, .int .i64 0] 58
  have H7 : Sep _ (HP.row 58 2 (.slice (some ⟨W3.heap.size, 0, none⟩) 2 2) 2 (stpCells [(.slice (some ⟨pu, 0, none⟩) 3 3, [1, 1, 2], 1), (.slice (some ⟨pu, 0, none⟩) 3 3, [1, 1, 2], 0)]) :: HP.row 3 1 (.slice (some ⟨pu, 0, none⟩) 3 3) 3 (([1, 1, 2] : List Int).map iv) :: _) := Sep.row_shut H6 (Nat.le_refl _) (by unfold maxLen; omega) rfl rfl
  refine (code_calls (by simp) (by simp; exact ⟨hR1, hR0⟩) (stp_rd rfl (by intro p hp; simp at hp; rcases hp with rfl | rfl <;> exact Reads.row)) H7).mono ?_
  rintro _ W4 ⟨_, rfl, u3, c3, rfl, hc3, H8⟩
  obtain rfl := code_d hc3
  obtain ⟨a1, d1, rfl⟩ := H8.tail.tail.tail.tail.row_form
  go_wp2_with fail
  have HX := H8.alloc #[.int .u8 128] 5
  refine (bsame_calls (xs := [128]) (ys := [128]) (by decide) HX.tail.tail.tail.tail.rd (rd_pt rfl HX)).mono ?_
  rintro _ _ ⟨rfl, n, rfl⟩
  have e1 : decide (([128] : List Nat) = [128]) = true := by decide
  rw [e1]
  have HY := HX.drewN n
  generalize (W4.alloc (.cells #[.int .u8 128] 5)).drewN n = W5 at *
  go_wp2_with fail
  have HZ := HY.alloc #[.int .u8 64] 5
  refine (bsame_calls (xs := [64]) (ys := [64]) (by decide) HZ.tail.tail.rd (rd_pt rfl HZ)).mono ?_
  rintro _ _ ⟨rfl, n2, rfl⟩
  have e2 : decide (([64] : List Nat) = [64]) = true := by decide
  rw [e2]
  have HU := HZ.drewN n2
  go_wp2_with fail
  go_ret
  exact ⟨rfl, HU.tail.tail.tail.tail.tail.tail.tail⟩

end Go.Proofs.Ytglinpclcmmnbaa
