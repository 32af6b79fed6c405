import Derived.Test.YticeolbagfaofaaOrd9
namespace Go.Proofs.Yticeolbagfaofaa
open Go.RowKit

set_option maxRecDepth 100000 in
theorem decode_nil {n : Int} {w : World} : Calls Try.prog 21 #[.pointer none, .int .i64 n] w fun e w' => e = .returned (.tuple #[.slice none 0 0, .int .i64 1]) ∧ w = w' := by
  go_enter Try.func21, Try.ntmps21
  go_wp2_with fail
  go_ret2
  exact ⟨rfl, rfl⟩
set_option maxRecDepth 100000 in
theorem decode_range {n : Int} {q : Nat} {w : World} (h : n < 0 ∨ 8192 < n) : Calls Try.prog 21 #[.pointer (some ⟨q, 0, none⟩), .int .i64 n] w fun e w' => e = .returned (.tuple #[.slice none 0 0, .int .i64 2]) ∧ w = w' := by
  by_cases h1 : n < 0
  · go_enter Try.func21, Try.ntmps21
    go_wp2_with fail
    go_ret2
    exact ⟨rfl, rfl⟩
  · have h2 : 8192 < n := by omega
    go_enter Try.func21, Try.ntmps21
    go_wp2_with fail
    go_ret2
    exact ⟨rfl, rfl⟩

set_option maxRecDepth 100000 in
set_option maxHeartbeats 4000000 in
theorem law_OrderNone (a : Option Addr) (len cap : Nat) (z : List Int) {w : World} (hrow : IsRow .i64 w a len cap z) (n : Int) (_wn : (Lit.int .i64 n).wf = true) :
    Calls Try.prog 8 #[.slice a len cap, .int .i64 n] w fun e w' => e = .returned (.bool true) ∧ Below w.heap.size w w' := by
  obtain ⟨xs, hl, -, hrd, -⟩ := hrow.ints
  subst hl
  clear hrow _wn
  have H := Sep.start w
  have HRD : Hid (Reads [HP.old w.heap.size w] (.slice a xs.length cap) xs.length 1 (xs.map iv)) := Lib.hid (Reads.old hrd)
  clear hrd
  generalize hB : HP.old w.heap.size w = O at H HRD
  have HB := Lib.hid hB; clear hB
  by_cases hfew : 40 < xs.length
  · go_enter Try.func8, Try.ntmps8
    go_wp2_with fail
    refine (awake25 H).mono ?_
    rintro e w1 ⟨rfl, H1⟩
    go_wp2_with fail
    refine (awake25 H1).mono ?_
    rintro e w2 ⟨rfl, H2⟩
    go_wp2_with fail
    go_ret
    subst HB
    exact ⟨rfl, H2.below⟩
  go_enter Try.func8, Try.ntmps8
  go_wp2_with fail
  refine (awake25 H).mono ?_
  rintro e w1 ⟨rfl, H1⟩
  clear H
  go_wp2_with fail
  refine (rright_calls (by omega) (HRD.out _ H1)).mono ?_
  rintro e w2 ⟨rfl, n2, rfl⟩
  have H2 := H1.drewN n2
  generalize w1.drewN n2 = w2 at H2 ⊢
  clear H1
  cases hr : rightB xs with
  | false =>
    clear hr
    go_wp2_with fail
    refine (awake25 H2).mono ?_
    rintro e w3 ⟨rfl, H3⟩
    go_wp2_with fail
    go_ret
    subst HB
    exact ⟨rfl, H3.below⟩
  | true =>
  clear hr
  go_wp2_with fail
  refine (encode_nil (by omega) HRD.out H2).mono ?_
  rintro e w3 ⟨rfl, H3⟩
  clear H2
  go_wp2_with fail
  refine decode_nil.mono ?_
  rintro e w4 ⟨rfl, rfl⟩
  go_wp2_with fail
  refine (nr_ok (l := []) (by decide) ⟨rfl, .inl ⟨rfl, rfl⟩⟩ H3).mono ?_
  rintro e w4 ⟨r, rfl, b, rfl, H4⟩
  clear H3
  go_wp2_with fail
  refine (decode_range (.inr (by decide))).mono ?_
  rintro e w5 ⟨rfl, rfl⟩
  have h63 : 0 + xs.length ≤ maxLen := by unfold maxLen; omega
  have hby : (0 + xs.length) * 8 ≤ 140737488355328 := by omega
  have h63' : xs.length + 1 ≤ maxLen := by unfold maxLen; omega
  have hby' : (xs.length + 1) * 8 ≤ 140737488355328 := by omega
  have HE : Sep (w4.alloc (.cells #[] 3)) (HP.row 3 1 (.slice (some ⟨w4.heap.size, 0, none⟩) 0 0) 0 [] :: Rdr b [] 0 :: [O]) :=
    Sep.row_shut (H4.alloc #[] 3) (Nat.le_refl _) (by unfold maxLen; omega) rfl rfl
  have hrd1 := HRD.out _ HE.tail.tail
  go_wp2_with (first
    | (at_builtin; refine wpList_append_src rfl (.tmp 47) (.tmp 48) 22 rfl 3 (.int .i64 0) 1 8 Try.underlying22 info_iv rfl (by decide) (.slice (some ⟨w4.heap.size, 0, none⟩) 0 0) 0 [] rfl HE (.slice a xs.length cap) _ _ rfl hrd1 (iv_one _) h63 hby ?_; intro v3 w6 H6; rw [Nat.zero_add, List.nil_append] at H6; obtain ⟨va, vc, hv3⟩ := H6.row_form; subst hv3)
    | (at_builtin; go_must (refine wpList_append_one rfl (.tmp 49) (.tmp 52) 22 rfl 3 (.int .i64 0) 8 Try.underlying22 info_iv rfl (.slice va xs.length vc) xs.length _ (.int .i64 (xs.length : Int)) rfl rfl H6 rfl h63' hby' ?_); intro g7 vc7 w7 H7))
  clear HE hrd1 H6 h63 hby h63' hby' H4
  have hm2 : xs.map iv ++ [.int .i64 (xs.length : Int)] = (xs ++ [(xs.length : Int)]).map iv := by rw [List.map_append]; rfl
  rw [hm2] at H7
  clear hm2
  have hyl : (xs ++ [(xs.length : Int)]).length = xs.length + 1 := by simp
  have hry : Reads (HP.row 3 1 (.slice (some ⟨g7, 0, none⟩) (xs.length + 1) vc7) (xs.length + 1) ((xs ++ [(xs.length : Int)]).map iv) :: Rdr b [] 0 :: [O]) (.slice (some ⟨g7, 0, none⟩) (xs.length + 1) vc7) (xs ++ [(xs.length : Int)]).length 1 ((xs ++ [(xs.length : Int)]).map iv) := by rw [hyl]; exact Reads.row
  have HRY := Lib.hid hry
  have HYL := Lib.hid hyl
  have hyb : (xs ++ [(xs.length : Int)]).length ≤ 100000 := by omega
  clear hyl hry
  generalize xs ++ [(xs.length : Int)] = ys at *
  refine (after_calls (by omega) hyb HRD.out.cons.cons HRY.out H7).mono ?_
  rintro e w8 ⟨r, rfl, ⟨-, rfl, H8⟩ | ⟨⟨-, -, hne⟩, -⟩⟩
  rotate_left
  · exfalso; have := HYL.out; omega
  clear H7
  go_wp2_with fail
  refine (decode_calls (n := 0) (by decide) (by decide) (by decide) H8.tail).mono ?_
  rintro e w9 ⟨r, rfl, hpost⟩
  unfold DecPost at hpost
  rcases hpost with ⟨hne, -, -⟩ | ⟨-, v9, rfl, -, -, H9⟩
  · exact absurd rfl hne
  obtain ⟨a9, c9, rfl⟩ := H9.row_form
  go_wp2_with fail
  go_ret
  subst HB
  exact ⟨rfl, H9.tail.tail.below⟩

end Go.Proofs.Yticeolbagfaofaa
