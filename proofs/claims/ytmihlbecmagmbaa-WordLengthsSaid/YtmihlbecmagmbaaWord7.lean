/- word: Lengths. -/
import Derived.Test.YtmihlbecmagmbaaWord5
import Derived.Test.YtmihlbecmagmbaaWord6
namespace Go.Proofs.Ytmihlbecmagmbaa
open Go.RowKit Go.Shelf

attribute [local go_sem] Oper.semAt_some

theorem Sep.up4 {w : World} {A B C D X : HP} {L : List HP} (h : Sep w (A :: B :: C :: D :: X :: L)) : Sep w (X :: A :: B :: C :: D :: L) := h.perm (List.perm_middle (l₁ := [A, B, C, D]))
theorem Sep.up5 {w : World} {A B C D E X : HP} {L : List HP} (h : Sep w (A :: B :: C :: D :: E :: X :: L)) : Sep w (X :: A :: B :: C :: D :: E :: L) := h.perm (List.perm_middle (l₁ := [A, B, C, D, E]))

theorem Sep.up6 {w : World} {A B C D E F X : HP} {L : List HP} (h : Sep w (A :: B :: C :: D :: E :: F :: X :: L)) : Sep w (X :: A :: B :: C :: D :: E :: F :: L) := h.perm (List.perm_middle (l₁ := [A, B, C, D, E, F]))
theorem reverse_calls_n {n : Nat} {v : Value} {xs : List Int} {R : List HP} {w : World} (hn : xs.length = n) (hlen : n ≤ 1000000) (H : Sep w (HP.row 3 1 v n (xs.map iv) :: R)) :
    Calls Try.prog 43 #[v] w fun e w' => (∃ u, e = .returned u) ∧ Sep w' (HP.row 3 1 v n (xs.reverse.map iv) :: R) := by
  subst hn
  exact reverse_calls hlen H

def sh (x : Int) : Int × Bool := (x, false)
theorem wordS_sh {k : Lt} {t t' : List Int} {x : Int} (h : stepI k t = some (x :: t')) : wordS k (t.map sh) = (sh x, t'.map sh) := by
  cases k <;> rcases t with _ | ⟨a, _ | ⟨b, t⟩⟩ <;> simp [stepI] at h <;> (obtain ⟨rfl, rfl⟩ := h; simp [wordS, popS, sh])
theorem wordS_sh_none {k : Lt} {t : List Int} (h : stepI k t = none) : (wordS k (t.map sh)).1.2 = true := by
  cases k <;> rcases t with _ | ⟨a, _ | ⟨b, t⟩⟩ <;> simp [stepI] at h <;> simp [wordS, popS, sh]
theorem st_sum : ∀ {l : List UInt8} {t : List Int}, st l [] = some t → sumS (t.map sh) ≤ 6 * l.length ∧ t.length ≤ l.length
  | [], t, h => by simp [st] at h; subst h; simp [sumS]
  | c :: l, t, h => by
    obtain ⟨k, s, h1, h2, h3⟩ := st_cons.1 h
    obtain ⟨h4, h5⟩ := st_sum h2
    obtain ⟨h6, h7⟩ := stepI_len h3
    cases t with
    | nil => exact absurd rfl h6
    | cons x t =>
      have e := wordS_sh h3
      have := wordS_sum k (s.map sh)
      rw [e] at this
      simp only [List.map_cons, sumS, List.length_cons] at this h7 ⊢
      omega

/-- The length of the word with which letters begin. -/
def hdL (u : List UInt8) : Int := ((st u []).getD []).headD 0
def outsK (l : List UInt8) (k : Nat) : List Int := (List.range k).map fun j => hdL (l.drop (l.length - (j + 1)))
def lensL (l : List UInt8) : List Int := (List.range l.length).map fun i => hdL (l.drop i)
theorem outsK_succ (l : List UInt8) (k : Nat) : outsK l (k + 1) = outsK l k ++ [hdL (l.drop (l.length - (k + 1)))] := by simp [outsK, List.range_succ]
theorem outsK_length (l : List UInt8) (k : Nat) : (outsK l k).length = k := by simp [outsK]
theorem outsK_rev (l : List UInt8) : (outsK l l.length).reverse = lensL l := by
  apply List.ext_getElem
  · simp [outsK, lensL]
  intro i h1 h2
  have hi : i < l.length := by simpa [lensL] using h2
  rw [List.getElem_reverse]
  simp only [outsK, lensL, List.getElem_map, List.getElem_range, List.length_map, List.length_range]
  congr 2; omega
/-- Is it a word? -/
def lenP (l : List UInt8) : Bool := match st l [] with
  | some [_] => true
  | _ => false
def lenE (l : List UInt8) : Int := if lenP l then 0 else 3
def lensR (l : List UInt8) : List Int := if lenP l then lensL l else []
theorem st_drop_none {l : List UInt8} {k : Nat} (h : st (l.drop k) [] = none) : lenP l = false := by
  have : st l [] = none := by
    have e := List.take_append_drop k l
    rw [← e, st_append, h]; rfl
  unfold lenP
  rw [this]

def lenI (l : List UInt8) (q p b0 b1 k : Nat) : HP := HP.ex fun x : List Int × Value => HP.all [HP.pure (st (l.drop (l.length - k)) [] = some x.1), Stk q (x.1.map sh), HP.pt p #[x.2] 25, HP.row 3 1 x.2 k ((outsK l k).map iv), HP.pt b0 #[.slice none 0 0] 25, HP.pt b1 #[.int .i64 0] 29]
def lenX (l : List UInt8) (b0 b1 : Nat) (c : Code) : HP := HP.all [HP.pure (c = .ret ∧ lenP l = false), HP.pt b0 #[.slice none 0 0] 25, HP.pt b1 #[.int .i64 3] 29]

set_option maxRecDepth 100000 in
set_option maxHeartbeats 2000000 in
theorem lengths_calls {l : List UInt8} {R : List HP} {w : World} (hlen : l.length ≤ 1000) (H : Sep w R) :
    Calls Try.prog 18 #[.string (str l)] w fun e w' => ∃ v, e = .returned (.tuple #[v, .int .i64 (lenE l)]) ∧ Sep w' (HP.row 3 1 v (lensR l).length ((lensR l).map iv) :: R) := by
  have hcv := fun w => Lib.run_convert_string_bytes (P := Try.prog) w 9 40 5 (str l) (u := .string) Try.underlying9 Try.underlying40 Try.underlying5
  have H2 := (((H.alloc #[.slice none 0 0] 25).alloc #[.int .i64 0] 29).alloc #[.slice none 0 0] 70).alloc #[.slice none 0 0] 25
  simp only [World.size_alloc] at H2
  obtain ⟨o, H3, hread⟩ := H2.conv 5 l
  simp only [World.size_alloc] at H3 hread
  refine (callsIn_wide (n := 9)).1 ?_
  refine callsIn_of_wp_marks Try.func18 rfl trivial ?_ rfl
  simp only [Try.ntmps18, List.size_toArray, List.length_cons, List.length_nil, Nat.reduceAdd, Nat.reduceSub, Array.replicate_succ, Array.replicate_zero, List.push_toArray, List.append_toArray, List.nil_append, List.cons_append]
  refine wpIn_wide.2 ?_
  go_wp2_with fail
  have hss := str_size l
  generalize Lib.bytesWorld ((((w.alloc (.cells #[.slice none 0 0] 25)).alloc (.cells #[.int .i64 0] 29)).alloc (.cells #[.slice none 0 0] 70)).alloc (.cells #[.slice none 0 0] 25)) 5 (str l) = w2 at *
  generalize grownCap ((((w.alloc (.cells #[.slice none 0 0] 25)).alloc (.cells #[.int .i64 0] 29)).alloc (.cells #[.slice none 0 0] 70)).alloc (.cells #[.slice none 0 0] 25)) (str l).size 0 5 = cap at *
  rw [hss]
  clear hss H2 hcv
  generalize w.heap.size + 1 + 1 + 1 + 1 = g at *
  generalize w.heap.size + 1 + 1 + 1 = p at *
  generalize w.heap.size + 1 + 1 = q at *
  generalize w.heap.size + 1 = b1 at *
  generalize w.heap.size = b0 at *
  have H4 := H3.alloc #[.slice (some ⟨g, 0, none⟩) l.length cap] 40
  refine back_calls.mono ?_
  rintro e w3 ⟨rfl, rfl⟩
  go_wp2_with fail
  generalize w2.heap.size = bx at *
  generalize w2.alloc (.cells #[.slice (some ⟨g, 0, none⟩) l.length cap] 40) = w3 at *
  have HR := Lib.hid hread
  clear hread H3 H
  have H5 : Sep w3 (lenI l q p b0 b1 0 :: HP.pt bx #[.slice (some ⟨g, 0, none⟩) l.length cap] 40 :: HP.obj g o :: R) := by
    have h1 := Stk.shut (s := []) ((((H4.up5.up5.swap.row_nil 3 1).up5.up6).row_nil 75 2).swap)
    exact Sep.ex_intro ([], .slice none 0 0) (Sep.all_intro (Sep.pure_intro (by rw [Nat.sub_zero, List.drop_length]; rfl) h1))
  refine wp_rangeFunc_sep (gf := 51) (lb := #[.pointer (some ⟨bx, 0, none⟩)]) rfl (enters_of Try.func51 (by kernel_rfl) rfl) (encs := bkArgs l) (N := l.length)
    (fun ll J Jx W hJ hY h0 => back1_in (by omega) HR.out ll J Jx W hJ hY h0) (fun _ => rfl) (lenI l q p b0 b1) (lenX l b0 b1) H5 ?_ ?assign ?body ?done ?stop
  case assign =>
    intro ll x W K hK
    simp only [bkArgs]
    gi_wp2
    exact hK
  case body =>
    intro ll k R' W H hk
    clear H5 H4
    obtain ⟨⟨t, vo⟩, H⟩ := H.ex_elim
    obtain ⟨hs, H⟩ := Sep.pure_elim H.all_elim
    dsimp only at hs H
    have hkd := drop_bk hk
    obtain ⟨hsm, hsl⟩ := st_sum hs
    have hld : (l.drop (l.length - k)).length = k := by rw [List.length_drop]; omega
    rw [hld] at hsm hsl
    have hw := word_calls (c := bk l k) (by rw [List.length_map]; omega) (fun x hx => by have := sumS_mem hx; omega) H
    gi_wp2
    refine ⟨trivial, ?_⟩
    refine (CallsIn.inRound ll (callsIn_wide.2 hw)).mono ?_
    clear hw
    rintro e w2 hr
    cases hkk : kindOf (bk l k) with
    | none =>
      rw [hkk] at hr
      obtain ⟨rfl, H2⟩ := hr
      have hbg : lenP l = false := st_drop_none (k := l.length - (k + 1)) (by rw [hkd]; simp [st, hkk])
      clear hkd hs hkk H
      have H3 := ((H2.alloc #[.int .i64 0, .bool false] 75).tail.tail.tail.tail)
      have c0 := H3.cell 0 rfl
      have f0 := H3.froz 0
      have c1 := H3.tail.cell 0 rfl
      have f1 := H3.tail.froz 0
      have hne := H3.ne
      have hne2 := H3.swap.ne
      have HG := Lib.hid hbg
      clear hbg
      gi_wp2
      have H4 := ((H3.set 0 (.slice none 0 0)).swap.set 0 (.int .i64 3)).swap
      exact Sep.all_intro (Sep.pure_intro ⟨rfl, HG.out⟩ H4)
    | some kk =>
      rw [hkk] at hr
      dsimp only at hr
      cases hstep : stepI kk t with
      | none =>
        have hmm := wordS_sh_none hstep
        obtain ⟨n, s1, hwe⟩ : ∃ n s1, wordS kk (t.map sh) = ((n, true), s1) := by
          generalize wordS kk (t.map sh) = y at *
          obtain ⟨⟨n, m⟩, s1⟩ := y
          simp only at hmm
          subst hmm
          exact ⟨n, s1, rfl⟩
        rw [hwe] at hr
        clear hwe hmm
        obtain ⟨rfl, H2⟩ := hr
        have hbg : lenP l = false := st_drop_none (k := l.length - (k + 1)) (by
          rw [hkd]; simp only [st, hkk, hs]; simp [hstep])
        clear hkd hs hkk H hstep
        dsimp only at H2
        have H3 := ((H2.alloc #[.int .i64 n, .bool true] 75))
        have c2 := H3.cell 1 rfl
        have H3 := H3.tail.tail.tail.tail
        have c0 := H3.cell 0 rfl
        have f0 := H3.froz 0
        have c1 := H3.tail.cell 0 rfl
        have f1 := H3.tail.froz 0
        have hne := H3.ne
        have hne2 := H3.swap.ne
        have HG := Lib.hid hbg
        clear hbg
        gi_wp2
        have H4 := ((H3.set 0 (.slice none 0 0)).swap.set 0 (.int .i64 3)).swap
        exact Sep.all_intro (Sep.pure_intro ⟨rfl, HG.out⟩ H4)
      | some t1 =>
        rcases t1 with _ | ⟨n, t1⟩
        · exact absurd rfl (stepI_len hstep).1
        have hnew : st (l.drop (l.length - (k + 1))) [] = some (n :: t1) := by
          rw [hkd]; exact st_cons.2 ⟨kk, t, hkk, hs, hstep⟩
        have hout : outsK l (k + 1) = outsK l k ++ [n] := by rw [outsK_succ]; unfold hdL; rw [hnew]; rfl
        have hwe : wordS kk (t.map sh) = ((n, false), t1.map sh) := wordS_sh hstep
        rw [hwe] at hr
        clear hwe
        obtain ⟨rfl, H2⟩ := hr
        have hs1l : t1.length ≤ 1000 := by
          have := (stepI_len hstep).2
          have := (st_sum hnew).2
          rw [List.length_drop] at this
          simp only [List.length_cons] at this
          omega
        have HN := Lib.hid (And.intro hnew hout)
        clear hnew hout hkd hs hkk H hstep hsm hsl hld
        dsimp only at H2
        obtain ⟨v, H3⟩ := Stk.open H2
        have H4 := H3.alloc #[.int .i64 n, .bool false] 75
        have c0 := H4.swap.cell 0 rfl
        have hone : ∀ u ∈ [Value.int .i64 n, .bool false], u.oneCell' = true := by intro u hu; simp at hu; rcases hu with rfl | rfl <;> rfl
        have hone2 : ∀ u ∈ [Value.int .i64 n], u.oneCell' = true := by intro u hu; simp at hu; subst hu; rfl
        gi_wp2_with (gi_at_builtin; first
          | (refine wpListIn_append_new rfl _ _ 70 rfl 75 _ 2 16 Try.underlying70 info_span rfl (by decide) v (t1.map sh).length (spcs (t1.map sh)) [.int .i64 n, .bool false] rfl hone rfl H4.rot3 (w2.heap.size + 1) (by rw [World.size_alloc]) rfl (by rw [List.length_map]; simp only [maxLen]; omega) (by rw [List.length_map]; omega) ?_; intro g' cap' w5 H5; have c5 := H5.tail.tail.cell 0 rfl; have f5 := H5.tail.tail.froz 0; have H6 := Stk.shut (s := (n, false) :: t1.map sh) (H5.rot3.set 0 (.slice (some ⟨g', 0, none⟩) ((t1.map sh).length + 1) cap')); rw [List.length_map] at H6; have x6 := H6.swap.cell 0 rfl; have p6 := H6.tail.tail.cell 0 rfl)
          | (refine wpListIn_append_new rfl _ _ 25 rfl 3 _ 1 8 Try.underlying25 info_iv rfl (by decide) vo k ((outsK l k).map iv) [.int .i64 n] rfl hone2 rfl H6.rot4 w5.heap.size (by rw [World.size_setCell]) rfl (by simp only [maxLen]; omega) (by omega) ?_; intro g6 cap6 w7 H7; have c7 := H7.tail.tail.tail.cell 0 rfl; have f7 := H7.tail.tail.tail.froz 0))
        have H8 := H7.rot4.set 0 (.slice (some ⟨g6, 0, none⟩) (k + 1) cap6)
        have hr : (outsK l (k + 1)).map iv = (outsK l k).map iv ++ [.int .i64 n] := by rw [HN.out.2, List.map_append]; rfl
        rw [← hr] at H8
        exact Sep.ex_intro (n :: t1, .slice (some ⟨g6, 0, none⟩) (k + 1) cap6) (Sep.all_intro (Sep.pure_intro HN.out.1 H8.rot3.rot4.tail))
  case stop =>
    intro D c W H
    obtain ⟨⟨rfl, hb⟩, H0⟩ := Sep.pure_elim H.all_elim
    clear H
    go_wp2_with fail
    have H6 : Sep (W.putObj D (.deferred none)) (HP.pt b0 #[.slice none 0 0] 25 :: HP.pt b1 #[.int .i64 3] 29 :: HP.obj D (.deferred none) :: HP.pt bx #[.slice (some ⟨g, 0, none⟩) l.length cap] 40 :: HP.obj g o :: R) := (H0.rot3.obj_put (.deferred none)).mid2
    have hl := loadVar_plain (P := Try.prog) Try.underlying25 rfl (H6.cell 0 rfl)
    have hl2 := loadVar_plain (P := Try.prog) Try.underlying29 rfl (H6.tail.cell 0 rfl)
    refine ⟨by simp, .inl ⟨_, _, rfl, run_takeDeferred H0.rot3.obj_get, ?_⟩⟩
    refine ⟨_, results_cell2 rfl rfl hl rfl hl2, ?_⟩
    unfold lensR lenE
    rw [hb]
    exact ⟨_, rfl, H6.tail.tail.tail.tail.tail.row_nil _ _⟩
  case done =>
    intro D W H
    obtain ⟨⟨t, vo⟩, H⟩ := H.ex_elim
    obtain ⟨hs, H⟩ := Sep.pure_elim H.all_elim
    dsimp only at hs H
    rw [Nat.sub_self, List.drop_zero] at hs
    have hlp : lenP l = decide (t.length = 1) := by
      unfold lenP
      rw [hs]
      rcases t with _ | ⟨x, _ | ⟨y, t⟩⟩ <;> simp
    obtain ⟨_, hsl⟩ := st_sum hs
    obtain ⟨v, H⟩ := Stk.open H
    rw [List.length_map] at H
    obtain ⟨va, vc, rfl⟩ := H.tail.row_form
    have H1 : Sep W (HP.pt b0 #[.slice none 0 0] 25 :: HP.pt b1 #[.int .i64 0] 29 :: HP.pt q #[.slice va t.length vc] 70 :: HP.row 75 2 (.slice va t.length vc) t.length (spcs (t.map sh)) :: HP.pt p #[vo] 25 :: HP.row 3 1 vo l.length ((outsK l l.length).map iv) :: HP.obj D (.deferred (some [])) :: HP.pt bx #[.slice (some ⟨g, 0, none⟩) l.length cap] 40 :: HP.obj g o :: R) := by
      exact (Sep.up5 (Sep.up4 H)).swap
    have HLP := Lib.hid hlp
    clear H H5 hs hlp
    have c0 := H1.cell 0 rfl
    have f0 := H1.froz 0
    have c1 := H1.tail.cell 0 rfl
    have f1 := H1.tail.froz 0
    have hne := H1.ne
    have hne2 := H1.swap.ne
    have s0 := H1.tail.tail.cell 0 rfl
    have o0 := H1.tail.tail.tail.tail.cell 0 rfl
    by_cases ht : t.length = 1
    · rw [ht] at s0
      obtain ⟨oa, oc, rfl⟩ := H1.tail.tail.tail.tail.tail.row_form
      have hrv := reverse_calls_n (outsK_length l l.length) (by omega) (Sep.up5 H1)
      rw [outsK_rev] at hrv
      go_wp2_with fail
      refine hrv.mono ?_
      rintro e w5 ⟨⟨u, rfl⟩, H5⟩
      have c0 := H5.tail.cell 0 rfl
      have f0 := H5.tail.froz 0
      have c1 := H5.tail.tail.cell 0 rfl
      have f1 := H5.tail.tail.froz 0
      have hne := H5.tail.ne
      have hne2 := H5.tail.swap.ne
      have o0 := H5.tail.tail.tail.tail.tail.cell 0 rfl
      clear H1
      go_wp2_with fail
      have H6 := ((H5.swap.set 0 (.slice oa l.length oc)).rot3.set 0 (.int .i64 0)).up6
      have H8 := H6.obj_put (.deferred none)
      have hl := loadVar_plain (P := Try.prog) Try.underlying25 rfl (H8.tail.tail.cell 0 rfl)
      have hl2 := loadVar_plain (P := Try.prog) Try.underlying29 rfl (H8.tail.cell 0 rfl)
      refine ⟨by simp, .inl ⟨_, _, rfl, run_takeDeferred H6.obj_get, ?_⟩⟩
      refine ⟨_, results_cell2 rfl rfl hl rfl hl2, ?_⟩
      have hb : lenP l = true := by rw [HLP.out, decide_eq_true ht]
      have hll : (lensL l).length = l.length := by simp [lensL]
      unfold lensR lenE
      rw [hb]
      refine ⟨_, rfl, ?_⟩
      rw [if_pos rfl, hll]
      exact H8.tail.tail.tail.swap.tail.swap.tail.swap.tail.swap.tail.swap.tail
    · have e1 : ((t.length : Int) != 1) = true := by simp; omega
      go_wp2_with fail
      have H6 := ((H1.set 0 (.slice none 0 0)).swap.set 0 (.int .i64 3)).up6
      have H8 := H6.obj_put (.deferred none)
      have hl := loadVar_plain (P := Try.prog) Try.underlying25 rfl (H8.tail.tail.cell 0 rfl)
      have hl2 := loadVar_plain (P := Try.prog) Try.underlying29 rfl (H8.tail.cell 0 rfl)
      refine ⟨by simp, .inl ⟨_, _, rfl, run_takeDeferred H6.obj_get, ?_⟩⟩
      refine ⟨_, results_cell2 rfl rfl hl rfl hl2, ?_⟩
      have hb : lenP l = false := by rw [HLP.out, decide_eq_false ht]
      unfold lensR lenE
      rw [hb]
      exact ⟨_, rfl, (Sep.drop_left (S := [_, _, _, _, _, _, _, _, _]) H8).row_nil _ _⟩

end Go.Proofs.Ytmihlbecmagmbaa
