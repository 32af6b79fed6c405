import Derived.Test.YtglinpclcmmnbaaLaw3c
namespace Go.Proofs.Ytglinpclcmmnbaa
open Go.RowKit

set_option maxRecDepth 100000 in
set_option maxHeartbeats 4000000 in
theorem law_TableNone (a : Option Addr) (len cap : Nat) (z : List Int) {w : World} (hrow : IsRow .i64 w a len cap z) (y : Int) (_wy : (Lit.int .i64 y).wf = true) :
    Calls Try.prog 10 #[.slice a len cap, .int .i64 y] w fun e w' => e = .returned (.bool true) ∧ Below w.heap.size w w' := by
  obtain ⟨xs, hl, -, hrd, -⟩ := hrow.ints
  subst hl
  clear hrow _wy
  have H := Sep.start w
  have HRD : Hid (Reads [HP.old w.heap.size w] (.slice a xs.length cap) xs.length 1 (xs.map iv)) := Lib.hid (Reads.old hrd)
  clear hrd
  generalize hB : HP.old w.heap.size w = O at H HRD
  have HB := Lib.hid hB; clear hB
  by_cases hfew : 40 < xs.length
  · go_enter Try.func10, Try.ntmps10
    go_wp2_with fail
    refine (awake3 H).mono ?_
    rintro e w1 ⟨rfl, H1⟩
    go_wp2_with fail
    go_ret
    subst HB
    exact ⟨rfl, H1.below⟩
  go_enter Try.func10, Try.ntmps10
  go_wp2_with fail
  refine (awake3 H).mono ?_
  rintro e w1 ⟨rfl, H1⟩
  clear H
  go_wp2_with fail
  refine (find_nil H1).mono ?_
  rintro e w2 ⟨rfl, H2⟩
  clear H1
  go_wp2_with fail
  refine symbols_nil.mono ?_
  rintro e w3 ⟨rfl, rfl⟩
  go_wp2_with fail
  refine total_nil.mono ?_
  rintro e w3 ⟨rfl, rfl⟩
  go_wp2_with fail
  refine low_nil.mono ?_
  rintro e w3 ⟨rfl, rfl⟩
  go_wp2_with fail
  refine count_nil.mono ?_
  rintro e w3 ⟨rfl, rfl⟩
  go_wp2_with fail
  refine bump_nil.mono ?_
  rintro e w3 ⟨rfl, rfl⟩
  go_wp2_with fail
  refine clone_nil.mono ?_
  rintro e w3 ⟨rfl, rfl⟩
  have h63 : 0 + xs.length ≤ maxLen := by unfold maxLen; omega
  have hby : (0 + xs.length) * 8 ≤ 140737488355328 := by omega
  have HE : Sep (w2.alloc (.cells #[] 3)) (HP.row 3 1 (.slice (some ⟨w2.heap.size, 0, none⟩) 0 0) 0 [] :: [O]) :=
    Sep.row_shut (H2.alloc #[] 3) (Nat.le_refl _) (by unfold maxLen; omega) rfl rfl
  have hrd1 := HRD.out _ HE.tail
  go_wp2_with ((at_builtin; go_must (refine wpList_append_src rfl (.tmp 57) (.tmp 58) 22 rfl 3 (.int .i64 0) 1 8 Try.underlying22 info_iv rfl (by decide) (.slice (some ⟨w2.heap.size, 0, none⟩) 0 0) 0 [] rfl HE (.slice a xs.length cap) _ _ rfl hrd1 (iv_one _) h63 hby ?_); intro v3 w3 H3; rw [Nat.zero_add, List.nil_append] at H3; obtain ⟨va, vc, hv3⟩ := H3.row_form; subst hv3))
  clear HE hrd1 H2
  refine (new_calls Reads.row H3).mono ?_
  rintro e w4 ⟨r, rfl, ⟨hne, rfl, H4⟩ | ⟨he, b, rfl, H4⟩⟩
  · have hne2 : ((tabErr xs : Int) != 0) = true := by rw [bne_iff_ne]; omega
    generalize tabErr xs = t at hne2 ⊢
    clear hne
    go_wp2_with fail
    go_ret
    subst HB
    exact ⟨rfl, H4.tail.below⟩
  have HV := Lib.hid (tabErr_ok he)
  clear he H3
  replace H4 := H4.swap
  go_wp2_with fail
  go_loopg [11] xs.length (fun gk i wr => ∃ t : Nat, ∃ ys : List Value, Hid (t ≤ xs.length ∧ gk = xs.length - t ∧ ys.length = xs.length) ∧ i = .int .i64 (t : Int) ∧ Sep wr (HP.row 3 1 (.slice va xs.length vc) xs.length ys :: Tbl b xs :: [O]))
  case atStart => exact ⟨0, _, Lib.hid ⟨by omega, rfl, by rw [List.length_map]⟩, rfl, H4⟩
  case round =>
    clear H4
    obtain ⟨t, ys, hq, rfl, Hr⟩ := hrel
    obtain ⟨q1, q2, q3⟩ := hq.out
    clear hq
    by_cases c : t < xs.length
    · obtain ⟨g, cap', cur, he, hx⟩ := Hr.row_open (by omega)
      clear hx
      simp only [Value.slice.injEq, true_and] at he
      obtain ⟨rfl, rfl⟩ := he
      obtain ⟨u, hu⟩ : ∃ u, ys[t]? = some u := ⟨_, List.getElem?_eq_getElem (by omega)⟩
      have hc : wr.cell? ⟨g, t, none⟩ = some u := Hr.row_cell t hu
      have hf := Hr.row_froz t
      have H6 := Hr.row_set t (.int .i64 y)
      clear hu
      go_wp2_with fail
      go_roundg (xs.length - (t + 1))
      case rel => exact ⟨t + 1, _, Lib.hid ⟨by omega, rfl, by rw [List.length_set]; exact q3⟩, by go_num, H6⟩
      case measure => omega
    · have H7 := Hr.tail
      go_wp2_with fail
      refine (same_calls HV.out (HRD.out _ H7.tail) H7).mono ?_
      rintro e w5 ⟨rfl, n5, rfl⟩
      have H8 := H7.drewN n5
      go_wp2_with fail
      go_ret
      subst HB
      exact ⟨rfl, H8.tail.below⟩

end Go.Proofs.Ytglinpclcmmnbaa
