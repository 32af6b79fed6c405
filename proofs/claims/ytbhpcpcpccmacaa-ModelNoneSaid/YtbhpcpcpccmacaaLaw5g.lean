/- Law 05: ModelNone. -/
import Derived.Test.YtbhpcpcpccmacaaLaw5
import Derived.Test.YtbhpcpcpccmacaaGC
namespace Go.Proofs.Ytbhpcpcpccmacaa
open Go.RowKit Go.Shelf

theorem chk_zeros (N : Nat) (m : Nat) (h1 : 1 ≤ N) (h2 : N ≤ 256) (hm : 65536 < m) : chkE (N : Int) 1 (zs (List.replicate m 0)) = 7 := by
  unfold chkE
  rw [if_neg (by omega), if_pos (by rw [zs_length, List.length_replicate]; exact hm)]

set_option maxRecDepth 100000 in
set_option maxHeartbeats 8000000 in
theorem law_ModelNone (n : Int) (_wn : (Lit.int .i64 n).wf = true) (cx : Int) (_wc : (Lit.int .i64 cx).wf = true) {w : World} :
    Calls Try.prog 11 #[.int .i64 n, .int .i64 cx] w fun e w' => e = .returned (.bool true) ∧ Below w.heap.size w w' := by
  have H := Sep.start w
  clear _wn _wc
  generalize hB : HP.old w.heap.size w = O at H
  have HB := Lib.hid hB; clear hB
  have hfe : fitE n cx [0] [] = if n < 1 ∨ 256 < n ∨ cx < 1 ∨ 64 < cx then 2 else 1 := by
    unfold fitE
    split
    · rfl
    · rfl
  have HFE := Lib.hid hfe
  clear hfe
  go_enter Try.func11, Try.ntmps11
  go_wp2_with fail
  refine (awake5 H).mono ?_
  rintro e w1 ⟨rfl, H1⟩
  clear H
  have H2 := H1.alloc #[.int .i64 0] 3
  have E1 := mencode_calls (v := .slice (some ⟨w1.heap.size, 0, none⟩) 1 1) (u := .slice none 0 0) (n := n) (cx := cx) (syms := [0]) (ctx := []) (by exact fun w' h => rd_pt rfl h) (by exact fun w' _ => ⟨rfl, .inl ⟨rfl, rfl⟩⟩) H2
  go_wp2_with fail
  refine E1.mono ?_
  rintro _ w2 ⟨_, rfl, ⟨-, rfl, H3⟩ | ⟨hf, -, -, -⟩⟩
  rotate_left
  · rw [HFE.out] at hf
    split at hf
    · exact absurd hf (by decide)
    · exact absurd hf (by decide)
  clear E1 H1 H2
  have E2 : Hid (∀ (w' : World) (G : List HP), Sep w' G → Calls Try.prog 26 #[.int .i64 1, .int .i64 1, .slice none 0 0, .slice none 0 0] w' (Gives fun r w2 => ∃ a c, r = .tuple #[.slice a 1 c, .int .i64 0] ∧ Sep w2 (HP.row 5 1 (.slice a 1 c) 1 [.int .u8 0] :: G))) := Lib.hid fun w' G h => by
    have := nencode_calls (v := .slice none 0 0) (u := .slice none 0 0) (N := 1) (C := 1) (ss := []) (cs := []) ⟨by decide, by decide, by decide, by decide, rfl, by decide, by simp, by simp⟩ (fun w' _ => ⟨rfl, .inl ⟨rfl, rfl⟩⟩) (fun w' _ => ⟨rfl, .inl ⟨rfl, rfl⟩⟩) h
    rw [enc_nil1] at this
    exact this
  have D1 : Hid (∀ (w' : World) (G : List HP) (a : Option Addr) (c : Nat), 1 ≤ c → Sep w' (HP.row 5 1 (.slice a 1 c) 1 [.int .u8 0] :: G) → Calls Try.prog 30 #[.slice a 1 c, .int .i64 1, .int .i64 1, .slice none 0 0] w' (Gives fun r w2 => ∃ a2 c2, r = .tuple #[.slice a2 0 c2, .int .i64 0] ∧ Sep w2 (HP.row 3 1 (.slice a2 0 c2) 0 [] :: HP.row 5 1 (.slice a 1 c) 1 [.int .u8 0] :: G))) := Lib.hid fun w' G a c hc h => by
    have hD := fun (h1 : (encN 1 [] []).length ≤ c) (h2 : Reads (HP.row 5 1 (.slice a 1 c) 1 [.int .u8 0] :: G) (.slice a (encN 1 [] []).length c) (encN 1 [] []).length 1 ((encN 1 [] []).map bv)) => ndecode_calls (u := .slice none 0 0) (N := 1) (C := 1) (ss := []) (cs := []) ⟨by decide, by decide, by decide, by decide, rfl, by decide, by simp, by simp⟩ h1 h2 (fun w' _ => ⟨rfl, .inl ⟨rfl, rfl⟩⟩) h
    rw [enc_nil1] at hD
    exact hD hc Reads.row
  have D2 : Hid (∀ (w' : World) (G : List HP), Sep w' G → Calls Try.prog 30 #[.slice none 0 0, .int .i64 1, .int .i64 1, .slice none 0 0] w' (Gives fun r w2 => r = .tuple #[.slice none 0 0, .int .i64 3] ∧ Sep w2 G)) := Lib.hid fun w' G h => by
    refine (mdecode_calls (a := none) (cap := 0) (u := .slice none 0 0) (n := 1) (cx := 1) (ctx := []) (b := []) (by simp) (by simp) (by simp) (fun w' _ => ⟨rfl, .inl ⟨rfl, rfl⟩⟩) (fun w' _ => ⟨rfl, .inl ⟨rfl, rfl⟩⟩) h).mono ?_
    rintro e w2 ⟨r, rfl, ⟨hf, -, -⟩ | ⟨-, ss, u, -, hen, -, -, -⟩ | ⟨-, -, rfl, H2⟩⟩
    · exact absurd (by decide) hf
    · rcases encN_cases (1 : Int).toNat ss (([] : List Int).map Int.toNat) with h | h <;> rw [h] at hen <;> cases hen
    · exact ⟨_, rfl, rfl, H2⟩
  have D3 : Hid (∀ (w' : World) (G : List HP) (p q : Nat), Sep w' (HP.pt q #[.int .i64 1] 3 :: HP.pt p #[.int .u8 0] 5 :: G) → Calls Try.prog 30 #[.slice (some ⟨p, 0, none⟩) 1 1, .int .i64 1, .int .i64 1, .slice (some ⟨q, 0, none⟩) 1 1] w' (Gives fun r w2 => r = .tuple #[.slice none 0 0, .int .i64 2] ∧ Sep w2 G)) := Lib.hid fun w' G p q h => by
    refine (mdecode_calls (a := some ⟨p, 0, none⟩) (cap := 1) (u := .slice (some ⟨q, 0, none⟩) 1 1) (n := 1) (cx := 1) (ctx := [1]) (b := [0]) (by simp) (by simp) (by simp) (by exact fun w' h => rd_pt rfl h.tail) (by exact fun w' h => rd_pt rfl h) h).mono ?_
    have hc : chkE 1 1 [1] = 2 := by decide
    rintro e w2 ⟨r, rfl, ⟨-, rfl, H2⟩ | ⟨hf, -, -, -, -, -, -, -⟩ | ⟨hf, -, -, -⟩⟩
    · exact ⟨_, rfl, by rw [hc]; rfl, H2.tail.tail⟩
    · rw [hc] at hf; cases hf
    · rw [hc] at hf; cases hf
  obtain ⟨m, hm⟩ : ∃ m : Nat, m = 65537 := ⟨_, rfl⟩
  have D4 : Hid (∀ (w' : World) (G : List HP) (p q : Nat), Sep w' (HP.row 3 1 (.slice (some ⟨q, 0, none⟩) m m) m (List.replicate m (.int .i64 0)) :: HP.pt p #[.int .u8 0] 5 :: G) → Calls Try.prog 30 #[.slice (some ⟨p, 0, none⟩) 1 1, .int .i64 2, .int .i64 1, .slice (some ⟨q, 0, none⟩) m m] w' (Gives fun r w2 => r = .tuple #[.slice none 0 0, .int .i64 7] ∧ Sep w2 G)) := Lib.hid fun w' G p q h => by
    have hl : (zs (List.replicate m 0)).length = m := by rw [zs_length, List.length_replicate]
    have hc : chkE 2 1 (zs (List.replicate m 0)) = 7 := chk_zeros 2 m (by decide) (by decide) (by omega)
    have hM := mdecode_calls (a := some ⟨p, 0, none⟩) (cap := 1) (u := .slice (some ⟨q, 0, none⟩) m m) (n := 2) (cx := 1) (ctx := zs (List.replicate m 0)) (b := [0]) (by simp) (by simp) (by simp) (by exact fun w' h => rd_pt rfl h.tail) (by rw [hl, zs_iv, ← zero_dv]; exact Reads.row) h
    refine hM.mono ?_
    rintro e w2 ⟨r, rfl, ⟨-, rfl, H2⟩ | ⟨hf, -, -, -, -, -, -, -⟩ | ⟨hf, -, -, -⟩⟩
    · exact ⟨_, rfl, by rw [hc]; rfl, H2.tail.tail⟩
    · rw [hc] at hf; cases hf
    · rw [hc] at hf; cases hf
  have hm1 : (65537 : Int) = (m : Int) := by omega
  have hm2 : m ≤ 65537 := by omega
  have HM1 := Lib.hid hm1
  clear hm hm1
  obtain ⟨fe, hfe⟩ : ∃ fe, fe = fitE n cx [0] [] := ⟨_, rfl⟩
  rw [← hfe] at HFE ⊢
  clear hfe
  have hcase : (n < 1 ∧ fe = 2) ∨ (¬ n < 1 ∧ 256 < n ∧ fe = 2) ∨ (¬ n < 1 ∧ ¬ 256 < n ∧ cx < 1 ∧ fe = 2) ∨ (¬ n < 1 ∧ ¬ 256 < n ∧ ¬ cx < 1 ∧ 64 < cx ∧ fe = 2) ∨ (¬ n < 1 ∧ ¬ 256 < n ∧ ¬ cx < 1 ∧ ¬ 64 < cx ∧ fe = 1) := by
    have := HFE.out
    split at this <;> omega
  clear HFE
  rcases hcase with ⟨k1, rfl⟩ | ⟨k1, k2, rfl⟩ | ⟨k1, k2, k3, rfl⟩ | ⟨k1, k2, k3, k4, rfl⟩ | ⟨k1, k2, k3, k4, rfl⟩
  all_goals (
    go_wp2_with fail
    refine (E2.out w2 _ H3).mono ?_
    rintro _ w4 ⟨_, rfl, ea, ec, rfl, H4⟩
    obtain ⟨g, cp, _, hsv, hcp, -⟩ := H4.row_open (by decide)
    simp only [Value.slice.injEq, true_and] at hsv
    obtain ⟨rfl, rfl⟩ := hsv
    go_wp2_with fail
    refine (D1.out w4 _ _ _ hcp H4).mono ?_
    rintro _ w5 ⟨_, rfl, a5, c5, rfl, H5⟩
    go_wp2_with fail
    refine (D2.out w5 _ H5).mono ?_
    rintro _ w6 ⟨_, rfl, rfl, H6⟩
    have H7 := H6.alloc #[.int .u8 0] 5
    have hz1 : (w6.alloc (.cells #[.int .u8 0] 5)).heap.size = w6.heap.size + 1 := World.size_alloc _ _
    have H8 := H7.alloc #[.int .i64 1] 3
    rw [hz1] at H8
    go_wp2_with fail
    refine (D3.out _ _ _ _ H8).mono ?_
    rintro _ w9 ⟨_, rfl, rfl, H9⟩
    have H10 := H9.alloc #[.int .u8 0] 5
    go_wp2_with ((at_make; go_must (refine wpList_make_sep rfl _ _ 40 rfl 3 (.int .i64 0) 8 Try.underlying40 info_iv rfl H10 .i64 .i64 _ _ m rfl rfl HM1.out HM1.out (by omega) (by unfold maxLen; omega) ?_); intro g2 w11 H11))
    have D5 := D4.out _ _ _ _ H11
    go_wp2_with fail
    refine D5.mono ?_
    rintro _ w12 ⟨_, rfl, rfl, H12⟩
    have c0 := H12.tail.row_cell 0 (show ([.int .u8 0] : List Value)[0]? = some (.int .u8 0) from rfl)
    go_wp2_with fail
    go_ret
    subst HB
    exact ⟨by simp, H12.tail.tail.tail.below⟩)

end Go.Proofs.Ytbhpcpcpccmacaa
