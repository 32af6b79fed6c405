/- Law 29: ResidualNone. -/
import Derived.Test.YtbhpcpcpccmacaaRes15
namespace Go.Proofs.Ytbhpcpcpccmacaa
open Go.RowKit Go.Shelf

theorem res_nil : resB [] = [0] := by
  have hp : rplainB [] = [0] := by decide +kernel
  unfold resB
  rw [hp, if_neg]
  unfold rclsB clsB
  simp

set_option maxRecDepth 100000 in
set_option maxHeartbeats 8000000 in
theorem law_ResidualNone (k : Int) (wk : (Lit.int .u8 k).wf = true) {w : World} :
    Calls Try.prog 4 #[.int .u8 k] w fun e w' => e = .returned (.bool true) ∧ Below w.heap.size w w' := by
  obtain ⟨k0, k1⟩ := wf_u8 wk
  clear wk
  have H := Sep.start w
  generalize hB : HP.old w.heap.size w = O at H
  have HB := Lib.hid hB; clear hB
  obtain ⟨m, hm⟩ : ∃ m : Nat, 4097 + k = (m : Int) := ⟨(4097 + k).toNat, by omega⟩
  have hm1 : 4096 < m := by omega
  have hm2 : m ≤ 5000 := by omega
  have E1 : Hid (∀ (w' : World) (G : List HP), Sep w' G → Calls Try.prog 22 #[.slice none 0 0] w' (Gives fun r w2 => ∃ a c, r = .tuple #[.slice a 1 c, .int .i64 0] ∧ Sep w2 (HP.row 5 1 (.slice a 1 c) 1 [.int .u8 0] :: G))) := Lib.hid fun w' G h => by
    refine (rencode_calls (v := .slice none 0 0) (n := 0) (xs := []) (by simp) (fun w' _ => ⟨rfl, .inl ⟨rfl, rfl⟩⟩) h).mono ?_
    rintro e w2 ⟨r, rfl, ⟨hf, -, -⟩ | ⟨-, a, c, rfl, H2⟩⟩
    · exact absurd (rfit_ok (by decide) (by decide)) hf
    · rw [res_nil] at H2 ⊢
      exact ⟨_, rfl, a, c, rfl, H2⟩
  have D1 : Hid (∀ (w' : World) (G : List HP) (a : Option Addr) (c : Nat), 1 ≤ c → Sep w' (HP.row 5 1 (.slice a 1 c) 1 [.int .u8 0] :: G) → Calls Try.prog 23 #[.slice a 1 c, .int .i64 0] w' (Gives fun r w2 => ∃ x y, r = .tuple #[.slice x 0 y, .int .i64 0] ∧ Sep w2 (HP.row 5 1 (.slice a 1 c) 1 [.int .u8 0] :: G))) := Lib.hid fun w' G a c hc h => by
    refine (rdecode_calls (a := a) (cap := c) (n := 0) (b := [0]) (by decide) hc (by decide) (by decide) Reads.row h).mono ?_
    rintro e w2 ⟨r, rfl, ⟨out, x, y, -, -, -, -, rfl, H2⟩ | ⟨hno, -, -⟩⟩
    · exact ⟨_, rfl, x, y, rfl, H2.tail⟩
    · exact absurd res_nil (hno [] (by decide) rfl)
  have D2 : Hid (∀ (w' : World) (G : List HP), Sep w' G → Calls Try.prog 23 #[.slice none 0 0, .int .i64 0] w' (Gives fun r w2 => r = .tuple #[.slice none 0 0, .int .i64 3] ∧ Sep w2 G)) := Lib.hid fun w' G h => by
    refine (rdecode_calls (a := none) (cap := 0) (n := 0) (b := []) (by decide) (by decide) (by decide) (by decide) (fun w' _ => ⟨rfl, .inl ⟨rfl, rfl⟩⟩) h).mono ?_
    rintro e w2 ⟨r, rfl, ⟨out, x, y, -, -, ho, -, -, -⟩ | ⟨-, rfl, H2⟩⟩
    · rcases resB_cases out with h | h <;> rw [h] at ho <;> cases ho
    · exact ⟨_, rfl, rfl, H2⟩
  have E2 : Hid (∀ (w' : World) (G : List HP) (g : Nat), Sep w' (HP.row 29 3 (.slice (some ⟨g, 0, none⟩) m m) m (List.replicate (m * 3) (.int .u64 0)) :: G) → Calls Try.prog 22 #[.slice (some ⟨g, 0, none⟩) m m] w' (Gives fun r w2 => r = .tuple #[.slice none 0 0, .int .i64 7] ∧ Sep w2 G)) := Lib.hid fun w' G g h => by
    have hf7 : rfitE m (List.replicate (m * 3) 0) = 7 := by unfold rfitE; rw [if_pos hm1]
    refine (rencode_calls (v := .slice (some ⟨g, 0, none⟩) m m) (n := m) (xs := List.replicate (m * 3) 0) (fun x hx => by rw [(List.mem_replicate.1 hx).2]; omega) (by rw [List.map_replicate]; exact Reads.row) h).mono ?_
    rintro e w2 ⟨r, rfl, ⟨-, rfl, H2⟩ | ⟨hf, -, -, -⟩⟩
    · exact ⟨_, rfl, by rw [hf7]; rfl, H2.tail⟩
    · rw [hf7] at hf; cases hf
  have C1 : Hid (∀ (w' : World) (G : List HP), Sep w' G → Calls Try.prog 20 #[.slice none 0 0] w' fun e w2 => e = .returned (.int .i64 0) ∧ Sep w2 G) := Lib.hid fun w' G h => cost_calls (v := .slice none 0 0) (n := 0) (xs := []) (by decide) (fun w' _ => ⟨rfl, .inl ⟨rfl, rfl⟩⟩) h
  go_enter Try.func4, Try.ntmps4
  go_wp2_with fail
  refine (awake29 H).mono ?_
  rintro e w1 ⟨rfl, H1⟩
  clear H
  go_wp2_with fail
  refine (E1.out _ _ H1).mono ?_
  rintro _ w2 ⟨_, rfl, ea, ec, rfl, H2⟩
  obtain ⟨g, cp, _, hsv, hcp, -⟩ := H2.row_open (by decide)
  simp only [Value.slice.injEq, true_and] at hsv
  obtain ⟨rfl, rfl⟩ := hsv
  clear H1
  go_wp2_with fail
  refine (D1.out _ _ _ _ hcp H2).mono ?_
  rintro _ w3 ⟨_, rfl, x, y, rfl, H3⟩
  clear H2
  go_wp2_with ((at_make; go_must (refine wpList_make_three rfl _ _ 30 rfl 29 (.int .u64 0) 24 Try.underlying30 info_arr H3 .i64 .i64 _ _ m rfl rfl (by omega) (by omega) (by omega) (by unfold maxLen; omega) ?_); intro g2 w4 H4))
  have E3 := E2.out _ _ _ H4
  go_wp2_with fail
  refine E3.mono ?_
  rintro _ w5 ⟨_, rfl, rfl, H5⟩
  clear E3 H4
  have D3 := rdecode_bad (a := some ⟨g, 0, none⟩) (m := 1) (cap := ec) (n := 4097) (.inr (by omega)) (w := w5)
  go_wp2_with fail
  refine D3.mono ?_
  rintro _ _ ⟨rfl, rfl⟩
  go_wp2_with fail
  refine (D2.out _ _ H5).mono ?_
  rintro _ w6 ⟨_, rfl, rfl, H6⟩
  clear H5
  have c0 := H6.row_cell 0 (show ([.int .u8 0] : List Value)[0]? = some (.int .u8 0) from rfl)
  go_wp2_with fail
  refine (C1.out _ _ H6).mono ?_
  rintro _ w7 ⟨rfl, H7⟩
  go_wp2_with fail
  go_ret
  subst HB
  exact ⟨by simp, H7.tail.below⟩

end Go.Proofs.Ytbhpcpcpccmacaa
