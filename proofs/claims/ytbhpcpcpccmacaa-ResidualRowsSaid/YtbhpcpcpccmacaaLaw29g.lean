/- Law 29: ResidualRows. -/
import Derived.Test.YtbhpcpcpccmacaaRes15
import Derived.Test.YtbhpcpcpccmacaaRef29a
import Derived.Test.YtbhpcpcpccmacaaOpen29
namespace Go.Proofs.Ytbhpcpcpccmacaa
open Go.RowKit Go.Shelf

theorem resB_le {xs : List Nat} (h : Fine xs) : (resB xs).length ≤ 1 + 6 * xs.length := by
  have h1 := rowG_le h
  have hp : (rplainB xs).length = 1 + ((rowG xs).length + 7) / 8 := by
    unfold rplainB
    rw [List.length_cons, pk_length]
    omega
  unfold resB
  by_cases hx : xs.length = 0
  · have := List.eq_nil_of_length_eq_zero hx
    subst this
    have h0 : (rowG []).length = 0 := rfl
    rw [h0] at hp
    split <;> omega
  · split <;> omega

set_option maxRecDepth 100000 in
set_option maxHeartbeats 8000000 in
theorem law_ResidualRows (v : Value) (xs : List Nat) {w : World} (hv : TripRow w v xs) :
    Calls Try.prog 15 #[v] w fun e w' => e = .returned (.bool true) ∧ Below w.heap.size w w' := by
  obtain ⟨n, hl, h64, hrd0⟩ := hv
  have hrd : Reads [HP.old w.heap.size w] v n 3 (xs.map uv) := Reads.old hrd0
  obtain ⟨va, vc, rfl⟩ := hrd0.form
  clear hrd0
  have H := Sep.start w
  generalize hB : HP.old w.heap.size w = O at H hrd
  have HB := Lib.hid hB; clear hB
  have HL := Lib.hid hl
  have H64 := Lib.hid h64
  clear hl h64
  by_cases hg : 60 < n
  · have hgi : (60 : Int) < (n : Int) := by omega
    go_enter Try.func15, Try.ntmps15
    go_wp2_with fail
    refine (awake29 H).mono ?_
    rintro e w1 ⟨rfl, H1⟩
    clear H
    go_wp2_with fail
    refine (awake29 H1).mono ?_
    rintro e w2 ⟨rfl, H2⟩
    go_wp2_with fail
    go_ret
    subst HB
    exact ⟨rfl, H2.below⟩
  have hgi : ¬ (60 : Int) < (n : Int) := by omega
  have RC := Lib.hid fun (w' : World) (h : Sep w' [O]) => rright_calls (by omega) (hrd _ h)
  by_cases hf : Fine xs
  rotate_left
  · have HD := Lib.hid (decide_eq_false (fun h : Fine xs ∧ n ≤ 4096 => hf h.1))
    clear hf
    go_enter Try.func15, Try.ntmps15
    go_wp2_with fail
    refine (awake29 H).mono ?_
    rintro e w1 ⟨rfl, H1⟩
    clear H
    have R := RC.out _ H1
    rw [HD.out] at R
    go_wp2_with fail
    refine R.mono ?_
    rintro _ _ ⟨rfl, rfl⟩
    go_wp2_with fail
    refine (awake29 H1).mono ?_
    rintro e w2 ⟨rfl, H2⟩
    go_wp2_with fail
    go_ret
    subst HB
    exact ⟨rfl, H2.below⟩
  have HD := Lib.hid (decide_eq_true (show Fine xs ∧ n ≤ 4096 from ⟨hf, by omega⟩))
  have HF := Lib.hid hf
  have HRL := Lib.hid (resB_le hf)
  clear hf
  go_enter Try.func15, Try.ntmps15
  go_wp2_with fail
  refine (awake29 H).mono ?_
  rintro e w1 ⟨rfl, H1⟩
  clear H
  have R := RC.out _ H1
  rw [HD.out] at R
  go_wp2_with fail
  refine R.mono ?_
  rintro _ _ ⟨rfl, rfl⟩
  clear R RC
  have HA := H1.alloc #[] 29
  have HN : Sep _ (HP.row 29 3 (.slice (some ⟨w1.heap.size, 0, none⟩) 0 0) 0 [] :: _) := Sep.row_shut HA (Nat.le_refl _) (by unfold maxLen; omega) rfl rfl
  have h63 : 0 + n ≤ maxLen := by unfold maxLen; omega
  have hby : (0 + n) * 24 ≤ 140737488355328 := by omega
  have hrd2 := hrd _ HN.tail
  clear HA
  go_wp2_with ((at_builtin; go_must (refine wpList_append_src rfl (.tmp 21) (.tmp 22) 30 rfl 29 (.agg #[.int .u64 0, .int .u64 0, .int .u64 0]) 3 24 Try.underlying30 info_arr rfl (by decide) (.slice (some ⟨w1.heap.size, 0, none⟩) 0 0) 0 [] rfl HN (.slice va n vc) n _ rfl hrd2 (uv_one _) h63 hby ?_); intro v7 w7 H7; obtain ⟨oa, oc, hv7⟩ := H7.row_form; subst hv7))
  rw [Nat.zero_add, List.nil_append] at H7
  clear H1 HN hrd2
  have EC := rencode_calls (v := .slice oa n oc) (n := n) H64.out Reads.row H7
  go_wp2_with fail
  refine EC.mono ?_
  rintro _ w8 ⟨_, rfl, ⟨hf, -, -⟩ | ⟨-, ea, ec, rfl, H8⟩⟩
  · exact absurd (rfit_ok (by omega) HF.out) hf
  clear EC H7
  have hrl := HRL.out
  have hl := HL.out
  have DC := rdecode_calls (a := ea) (cap := ec) (n := n) (b := resB xs) (by omega) H8.row_cap (resB_lt xs) (by omega) Reads.row H8
  have HNF := Lib.hid fun (h : ∀ ys, Fine ys → ys.length = n * 3 → resB ys ≠ resB xs) => h xs HF.out hl rfl
  clear hrl hl
  generalize hBB : resB xs = B at *
  have HBB := Lib.hid hBB
  clear hBB
  go_wp2_with fail
  refine DC.mono ?_
  rintro _ w9 ⟨_, rfl, ⟨out, x, y, -, -, -, huq, rfl, H9⟩ | ⟨hno, -, -⟩⟩
  rotate_left
  · exact absurd hno HNF.out
  obtain rfl := huq xs HF.out HL.out HBB.out
  clear DC H8 huq
  have S1 := same29_calls (va := .slice x n y) (vb := .slice va n vc) (n := n) (xs := out) (w := w9) (by omega) H9.rd (hrd _ H9.tail.tail.tail)
  go_wp2_with fail
  refine S1.mono ?_
  rintro _ _ ⟨rfl, k, rfl⟩
  have H10 := H9.drewN k
  clear S1
  have S2 := same29_calls (va := .slice oa n oc) (vb := .slice va n vc) (n := n) (xs := out) (w := w9.drewN k) (by omega) H10.tail.tail.rd (hrd _ H10.tail.tail.tail)
  go_wp2_with fail
  refine S2.mono ?_
  rintro _ _ ⟨rfl, k2, rfl⟩
  have H11 := H10.drewN k2
  rw [World.drewN_drewN] at H11
  go_wp2_with fail
  go_ret
  subst HB
  exact ⟨by simp, H11.tail.tail.tail.below⟩

end Go.Proofs.Ytbhpcpcpccmacaa
