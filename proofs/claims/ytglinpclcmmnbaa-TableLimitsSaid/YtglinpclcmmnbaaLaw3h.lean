import Derived.Test.YtglinpclcmmnbaaLaw3c
namespace Go.Proofs.Ytglinpclcmmnbaa
open Go.RowKit

def limL (a : Int) : List Int := a :: List.replicate 255 1
theorem limL_length (a : Int) : (limL a).length = 256 := by unfold limL; rw [List.length_cons, List.length_replicate]
theorem isum_ones (n : Nat) : isum (List.replicate n 1) = n := by
  induction n with
  | zero => rfl
  | succ n ih => rw [List.replicate_succ, isum, ih]; omega
theorem limL_sum (a : Int) : isum (limL a) = a + 255 := by
  unfold limL; rw [isum, isum_ones]; rfl
theorem limL_pos {a : Int} (h : 1 ≤ a) : ∀ x ∈ limL a, 1 ≤ x := by
  intro x hx
  unfold limL at hx
  rcases List.mem_cons.1 hx with hx | hx
  · omega
  · have := (List.mem_replicate.1 hx).2; omega
theorem limL_set (a y : Int) : (limL a).set 0 y = limL y := rfl
theorem limL_ok {a : Int} (h1 : 1 ≤ a) (h2 : a ≤ 65281) : Vt (limL a) := by
  have := limL_length a
  have := limL_sum a
  exact ⟨by omega, by omega, limL_pos h1, by omega⟩
theorem limL_over : tabErr (limL 65282) = 7 := by
  have h1 := limL_length 65282
  have h2 := limL_sum 65282
  unfold tabErr
  rw [if_neg (by omega), if_neg (fun h => h (limL_pos (by omega))), if_pos (by omega)]
theorem limL_long (a : Int) : tabErr (limL a ++ [1]) = 1 := by
  unfold tabErr
  rw [if_pos (.inr (by rw [List.length_append, limL_length]; decide))]
def limTo (t : Nat) : List Int := List.replicate t 1 ++ List.replicate (256 - t) 0
theorem limTo_length {t : Nat} (h : t ≤ 256) : (limTo t).length = 256 := by simp [limTo]; omega
theorem limTo_set {t : Nat} (h : t < 256) : (limTo t).set t 1 = limTo (t + 1) := by
  unfold limTo
  have e : 256 - t = (256 - (t + 1)) + 1 := by omega
  rw [List.set_append_right _ _ (by simp), List.length_replicate, Nat.sub_self, e, List.replicate_succ, List.set_cons_zero, List.replicate_succ' (n := t), List.append_assoc]
  rfl
theorem limTo_end : limTo 256 = limL 1 := by
  unfold limTo limL
  rw [Nat.sub_self, List.replicate_zero, List.append_nil]; rfl
theorem limTo_zero : limTo 0 = List.replicate 256 0 := rfl

theorem new_calls2 {v : Value} {n : Nat} {xs : List Int} {R : List HP} {w : World} (hn : n = xs.length) (hrd : Reads R v n 1 (xs.map iv)) (H : Sep w R) :
    Calls Try.prog 19 #[v] w (Gives (NewPost xs R)) := by
  subst hn
  exact new_calls hrd H

set_option maxRecDepth 100000 in
set_option maxHeartbeats 4000000 in
theorem law_TableLimits (first : Int) (wf : (Lit.int .u16 first).wf = true) (sym : Int) (wsym : (Lit.int .u8 sym).wf = true) {w : World} :
    Calls Try.prog 7 #[.int .u16 first, .int .u8 sym] w fun e w' => e = .returned (.bool true) ∧ Below w.heap.size w w' := by
  have hf0 := (wf_u16 wf).1
  have hf1 := (wf_u16 wf).2
  have hs0 := (wf_u8 wsym).1
  have hs1 := (wf_u8 wsym).2
  clear wf wsym
  have H := Sep.start w
  generalize hB : HP.old w.heap.size w = O at H
  have HB := Lib.hid hB; clear hB
  obtain ⟨D, hD⟩ : ∃ D : Int, first % 65280 = D := ⟨_, rfl⟩
  have hD1 : 0 ≤ D ∧ D ≤ 65279 := by omega
  have hrem : first.tmod 65280 = D := by rw [Int.tmod_eq_emod_of_nonneg hf0]; exact hD
  obtain ⟨k, rfl⟩ := Int.eq_ofNat_of_zero_le hs0
  have hZ : List.replicate 256 (Value.int .i64 0) = (limTo 0).map iv := by rw [limTo_zero, List.map_replicate]; rfl
  have HZ := Lib.hid hZ
  clear hZ
  go_enter Try.func7, Try.ntmps7
  go_wp2_with fail
  refine (awake3 H).mono ?_
  rintro e w1 ⟨rfl, H1⟩
  clear H
  go_wp2_with ((at_make; go_must (refine wpList_make_sep rfl _ _ 22 rfl 3 (.int .i64 0) 8 Try.underlying22 info_iv rfl H1 .i64 .i64 256 256 256 rfl rfl rfl rfl (by omega) (by unfold maxLen; omega) ?_); intro g w2 H2))
  rw [HZ.out] at H2
  go_loopg [7] 256 (fun gk i wr => ∃ t : Nat, Hid (t ≤ 256 ∧ gk = 256 - t) ∧ i = .int .i64 (t : Int) ∧ Sep wr (HP.row 3 1 (.slice (some ⟨g, 0, none⟩) 256 256) 256 ((limTo t).map iv) :: [O]))
  case atStart => exact ⟨0, Lib.hid ⟨by omega, rfl⟩, rfl, H2⟩
  case round =>
    clear H2 H1
    obtain ⟨t, hq, rfl, Hr⟩ := hrel
    obtain ⟨q1, q2⟩ := hq.out
    clear hq
    by_cases c : t < 256
    · obtain ⟨u, hu⟩ : ∃ u, ((limTo t).map iv)[t]? = some u := ⟨_, List.getElem?_eq_getElem (by rw [List.length_map, limTo_length q1]; exact c)⟩
      have hc : wr.cell? ⟨g, t, none⟩ = some u := Hr.row_cell t hu
      have hf := Hr.row_froz t
      have hmap : ((limTo t).map iv).set t (.int .i64 1) = (limTo (t + 1)).map iv := by rw [← limTo_set c, List.map_set]; rfl
      have H6 := Hr.row_set t (.int .i64 1)
      rw [hmap] at H6
      clear hu hmap
      go_wp2_with fail
      go_roundg (256 - (t + 1))
      case rel => exact ⟨t + 1, Lib.hid ⟨by omega, rfl⟩, by go_num, H6⟩
      case measure => omega
    · obtain rfl : t = 256 := by omega
      rw [limTo_end] at Hr
      have HSET : Hid (∀ (x y : Int) (w1 : World) (R : List HP), Sep w1 (HP.row 3 1 (.slice (some ⟨g, 0, none⟩) 256 256) 256 ((limL x).map iv) :: R) → w1.cell? ⟨g, 0, none⟩ = some (.int .i64 x) ∧ w1.frozen? ⟨g, 0, none⟩ = false ∧ Sep (w1.setCell ⟨g, 0, none⟩ (.int .i64 y)) (HP.row 3 1 (.slice (some ⟨g, 0, none⟩) 256 256) 256 ((limL y).map iv) :: R)) := Lib.hid fun x y w1 R h => by
        refine ⟨h.row_cell 0 (by simp [limL, iv]), h.row_froz 0, ?_⟩
        have := h.row_set 0 (.int .i64 y)
        have hm : ((limL x).map iv).set 0 (.int .i64 y) = (limL y).map iv := by rw [← limL_set x y, List.map_set]; rfl
        rwa [hm] at this
      have HLEN := Lib.hid limL_length
      obtain ⟨c1, f1, H2⟩ := HSET.out 1 (1 + D) _ _ Hr
      clear Hr
      go_wp2_with fail
      generalize wr.setCell ⟨g, 0, none⟩ (.int .i64 (1 + D)) = w3 at H2 ⊢
      refine (new_calls2 (HLEN.out _).symm Reads.row H2).mono ?_
      rintro e w4 ⟨r, rfl, ⟨hne, -, -⟩ | ⟨-, b, rfl, H4⟩⟩
      · exact absurd (tabErr_of (limL_ok (by omega) (by omega))) hne
      clear H2 c1 f1
      go_wp2_with fail
      refine (total_calls H4).mono ?_
      rintro e w5 ⟨rfl, rfl⟩
      rw [limL_sum]
      have H5 := H4.tail
      clear H4
      have h63 : 0 + 256 ≤ maxLen := by unfold maxLen; omega
      have hby : (0 + 256) * 8 ≤ 140737488355328 := by omega
      have h63' : 256 + 1 ≤ maxLen := by unfold maxLen; omega
      have hby' : (256 + 1) * 8 ≤ 140737488355328 := by omega
      have HE : Sep (w4.alloc (.cells #[] 3)) (HP.row 3 1 (.slice (some ⟨w4.heap.size, 0, none⟩) 0 0) 0 [] :: HP.row 3 1 (.slice (some ⟨g, 0, none⟩) 256 256) 256 ((limL (1 + D)).map iv) :: [O]) :=
        Sep.row_shut (H5.alloc #[] 3) (Nat.le_refl _) (by unfold maxLen; omega) rfl rfl
      have hrd1 := HE.tail.rd
      go_wp2_with (first
        | (at_builtin; refine wpList_append_src rfl (.tmp 54) (.tmp 55) 22 rfl 3 (.int .i64 0) 1 8 Try.underlying22 info_iv rfl (by decide) (.slice (some ⟨w4.heap.size, 0, none⟩) 0 0) 0 [] rfl HE (.slice (some ⟨g, 0, none⟩) 256 256) _ _ rfl hrd1 (iv_one _) h63 hby ?_; intro v3 w6 H6; rw [Nat.zero_add, List.nil_append] at H6; obtain ⟨va, vc, hv3⟩ := H6.row_form; subst hv3)
        | (at_builtin; go_must (refine wpList_append_one rfl (.tmp 56) (.tmp 57) 22 rfl 3 (.int .i64 0) 8 Try.underlying22 info_iv rfl (.slice va 256 vc) 256 _ (.int .i64 1) rfl rfl H6 rfl h63' hby' ?_); intro g7 vc7 w7 H7))
      have hm2 : (limL (1 + D)).map iv ++ [.int .i64 1] = (limL (1 + D) ++ [1]).map iv := by rw [List.map_append]; rfl
      rw [hm2] at H7
      clear hm2 HE hrd1 H6 h63 hby h63' hby'
      refine (new_calls2 (n := 257) (xs := limL (1 + D) ++ [1]) (by rw [List.length_append, limL_length]; rfl) Reads.row H7).mono ?_
      rintro e w8 ⟨r, rfl, ⟨-, rfl, H8⟩ | ⟨he, -⟩⟩
      rotate_left
      · rw [limL_long] at he; cases he
      rw [limL_long]
      obtain ⟨c1, f1, H9⟩ := HSET.out (1 + D) 65281 _ _ H8.tail
      clear H8 H7
      go_wp2_with fail
      generalize w8.setCell ⟨g, 0, none⟩ (.int .i64 65281) = w9 at H9 ⊢
      clear c1 f1
      refine (new_calls2 (HLEN.out _).symm Reads.row H9).mono ?_
      rintro e w10 ⟨r, rfl, ⟨hne, -, -⟩ | ⟨-, b2, rfl, H10⟩⟩
      · exact absurd (tabErr_of (limL_ok (by omega) (by omega))) hne
      obtain ⟨c1, f1, H11⟩ := HSET.out 65281 65282 _ _ H10.swap
      clear H9 H10
      go_wp2_with fail
      generalize w10.setCell ⟨g, 0, none⟩ (.int .i64 65282) = w11 at H11 ⊢
      clear c1 f1
      refine (new_calls2 (HLEN.out _).symm Reads.row H11).mono ?_
      rintro e w12 ⟨r, rfl, ⟨-, rfl, H12⟩ | ⟨he, -⟩⟩
      rotate_left
      · rw [limL_over] at he; cases he
      rw [limL_over]
      go_wp2_with fail
      refine (total_calls H12.swap).mono ?_
      rintro e w13 ⟨rfl, rfl⟩
      rw [limL_sum]
      obtain ⟨c1, f1, H13⟩ := HSET.out 65282 65281 _ _ H12
      clear H11 H12
      go_wp2_with fail
      generalize w12.setCell ⟨g, 0, none⟩ (.int .i64 65281) = w13 at H13 ⊢
      clear c1 f1
      have hv : Vt (limL 65281) := limL_ok (by omega) (by omega)
      have hk : k < (limL 65281).length := by rw [limL_length]; omega
      have e1 : bumpI (limL 65281) k = bumpOf (limL 65281) k := by unfold bumpI; rw [if_pos (by omega), Int.toNat_natCast]
      have e2 : bumpE (limL 65281) k = 0 := by unfold bumpE; rw [if_pos (by omega)]
      refine (bump_calls hv H13.swap).mono ?_
      rintro e w14 ⟨rfl, H14⟩
      rw [e1] at H14
      rw [e2]
      clear e1 e2 H13
      have hrd : Reads (HP.row 3 1 (.slice (some ⟨g, 0, none⟩) 256 256) 256 ((limL 65281).map iv) :: [O]) (.slice (some ⟨g, 0, none⟩) 256 256) (limL 65281).length 1 ((limL 65281).map iv) := by
        rw [limL_length]; exact Reads.row
      go_wp2_with fail
      refine (rbump_calls hv hk hrd.cons H14).mono ?_
      rintro e w15 ⟨r, rfl, H15⟩
      have hl2 := bumpOf_length (limL 65281) k
      rw [← hl2] at H15
      have HVB := Lib.hid (bumpOf_ok hv hk)
      generalize bumpOf (limL 65281) k = ds at H15 HVB
      clear hl2 hv hk hrd
      go_wp2_with fail
      refine (same_calls HVB.out H15.rd H15.swap).mono ?_
      rintro e w16 ⟨rfl, n16, rfl⟩
      have H16 := H15.drewN n16
      go_wp2_with fail
      go_ret
      subst HB
      exact ⟨rfl, H16.tail.tail.tail.below⟩

end Go.Proofs.Ytglinpclcmmnbaa
