/- word: begins. -/
import Derived.Test.YtmihlbecmagmbaaWord4
namespace Go.Proofs.Ytmihlbecmagmbaa
open Go.RowKit Go.Shelf

attribute [local go_sem] Oper.semAt_some

theorem drop_bk {l : List UInt8} {k : Nat} (h : k < l.length) : l.drop (l.length - (k + 1)) = bk l k :: l.drop (l.length - k) := by
  have h1 : l.length - (k + 1) < l.length := by omega
  have h2 : l.length - (k + 1) + 1 = l.length - k := by omega
  have h3 : l.length - (k + 1) = l.length - 1 - k := by omega
  rw [List.drop_eq_getElem_cons h1, h2, bk_eq h]
  congr 1
  congr 1
theorem stk_none {a b : List UInt8} (h : stk b = none) : stk (a ++ b) = none := by
  induction a with
  | nil => exact h
  | cons c a ih =>
    simp only [List.cons_append, stk, ih]
    cases kindOf c <;> rfl
theorem stk_drop_none {l : List UInt8} {k : Nat} (h : stk (l.drop k) = none) : begB l = false := by
  have : stk l = none := by
    rw [← List.take_append_drop k l]
    exact stk_none h
  unfold begB
  rw [this]

theorem Sep.tail2 {w : World} {X Y Z : HP} {L : List HP} (h : Sep w (X :: Y :: Z :: L)) : Sep w (X :: L) := h.swap.tail.swap.tail

/-- How great spans may be. -/
def sumS : List (Int × Bool) → Nat
  | [] => 0
  | x :: s => x.1.natAbs + sumS s
theorem sumS_mem : ∀ {s : List (Int × Bool)} {x : Int × Bool}, x ∈ s → x.1.natAbs ≤ sumS s
  | y :: s, x, h => by
    rcases List.mem_cons.1 h with rfl | h
    · simp [sumS]
    · have := sumS_mem h
      simp only [sumS]; omega
theorem wordS_sum (k : Lt) (s : List (Int × Bool)) : (wordS k s).1.1.natAbs + sumS (wordS k s).2 ≤ sumS s + 6 := by
  cases k <;> rcases s with _ | ⟨⟨n, _ | _⟩, _ | ⟨⟨m, _ | _⟩, s⟩⟩ <;> simp [wordS, popS, sumS] <;> omega
theorem stk_sum : ∀ {l : List UInt8} {s : List (Int × Bool)}, stk l = some s → sumS s ≤ 6 * l.length ∧ s.length ≤ l.length
  | [], s, h => by simp [stk] at h; subst h; simp [sumS]
  | c :: l, s, h => by
    obtain ⟨k, u, h1, h2, h3, rfl⟩ := stk_cons.1 h
    obtain ⟨h4, h5⟩ := stk_sum h2
    have := wordS_sum k u
    have := wordS_len k u
    simp only [sumS, List.length_cons]
    omega

/-- One element is appended, in a round. -/
theorem wpListIn_append_new {F : Fence} {n : Nat} {P : Program} {w : World} {ops : Array Oper} {rest : List Oper} {o : Oper} {a : Act} {Q : Exit → Act → World → Prop} (hgd : o.guard = none) (s x : Operand) (t : TypeId)
    (ho : o.op = .call { callee := .builtin .append, args := #[s, x], argTypes := #[t, t] })
    (e : TypeId) (z : Value) (size bytes : Nat) (ht : P.underlying t = some (.slice e)) (hinfo : (P.info? e).map (fun i => (i.zero, i.size, i.bytes)) = some (some z, size, bytes)) (hzs : z.cells.size = size) (hsz : 0 < size)
    (v : Value) (k : Nat) (xs : List Value) {R : List HP} (news : List Value) (hl : news.length = size) (h1 : ∀ u ∈ news, u.oneCell' = true) (hs : a.eval s = v) (H : Sep w (HP.row e size v k xs :: R))
    (g0 : Nat) (hg0 : g0 = w.heap.size) (hx : a.eval x = .slice (some ⟨g0, 0, none⟩) 1 1) (h63 : k + 1 ≤ maxLen) (hbytes : (k + 1) * bytes ≤ 140737488355328)
    (h : ∀ g cap w', Sep w' (HP.row e size (.slice (some ⟨g, 0, none⟩) (k + 1) cap) (k + 1) (xs ++ news) :: R) → wpListIn F n P ops Q rest (a.put o.dst (.slice (some ⟨g, 0, none⟩) (k + 1) cap)) w') :
    wpListIn F n P ops Q (o :: rest) a (w.alloc (.cells news.toArray e)) := by
  subst hg0
  obtain ⟨i, hi, hz, hs1, hb⟩ := info_parts hinfo
  have H' : Sep (w.alloc (.cells news.toArray e)) (HP.row e size v k xs :: HP.pt w.heap.size news.toArray e :: R) := (H.alloc news.toArray e).swap
  refine wpListIn_plain hgd fun K hK' => ?_
  obtain ⟨v', w', hrun, r1⟩ := run_append_sep (P := P) t o.type e i z size bytes ht hi hz hs1 hb hzs hsz v k xs H' ⟨w.heap.size, 0, none⟩ 1 1 news (by omega) (fun j u hu => by rw [addr_add, Nat.zero_add]; exact H'.swap.cell j (by simpa using hu)) h1 h63 hbytes
  have h3 := r1.swap.tail
  obtain ⟨g, cap, _, rfl, _⟩ := h3.row_open (by omega)
  unfold Oper.wpIn
  refine ⟨?_, ?_⟩
  · simp [Oper.about, ho, resolve, Target.leads, Sem.run_pure]
  · rw [Oper.semAt_plain F _ _ (by rw [ho]; intro c hc'; cases hc')]
    simp [execOp, ho, resolve, invoke, builtin, hs, hx, hrun, Result.andThen]
    exact hK' _ _ (h g cap w' h3)
theorem info_span : (Try.prog.info? 75).map (fun i => (i.zero, i.size, i.bytes)) = some (some (.agg #[.int .i64 0, .bool false]), 2, 16) := by kernel_rfl

/-- Between two rounds of begins. -/
def begI (l : List UInt8) (q b0 k : Nat) : HP := HP.ex fun s : List (Int × Bool) => HP.all [HP.pure (stk (l.drop (l.length - k)) = some s), Stk q s, HP.pt b0 #[.bool false] 4]
def begX (l : List UInt8) (b0 : Nat) (c : Code) : HP := HP.all [HP.pure (c = .ret ∧ begB l = false), HP.pt b0 #[.bool false] 4]

set_option maxRecDepth 100000 in
set_option maxHeartbeats 2000000 in
theorem begins_calls {l : List UInt8} {R : List HP} {w : World} (hlen : l.length ≤ 1000) (H : Sep w R) :
    Calls Try.prog 37 #[.string (str l)] w fun e w' => e = .returned (.bool (begB l)) ∧ Sep w' R := by
  have hcv := fun w => Lib.run_convert_string_bytes (P := Try.prog) w 9 40 5 (str l) (u := .string) Try.underlying9 Try.underlying40 Try.underlying5
  have H2 := (H.alloc #[.bool false] 4).alloc #[.slice none 0 0] 70
  have hsz : ((w.alloc (.cells #[.bool false] 4)).heap.size) = w.heap.size + 1 := by simp
  rw [hsz] at H2
  obtain ⟨o, H3, hread⟩ := H2.conv 5 l
  refine (callsIn_wide (n := 9)).1 ?_
  refine callsIn_of_wp_marks Try.func37 rfl trivial ?_ rfl
  simp only [Try.ntmps37, List.size_toArray, List.length_cons, List.length_nil, Nat.reduceAdd, Nat.reduceSub, Array.replicate_succ, Array.replicate_zero, List.push_toArray, List.append_toArray, List.nil_append, List.cons_append]
  refine wpIn_wide.2 ?_
  go_wp2_with fail
  simp only [World.size_alloc] at H3 hread
  have hss := str_size l
  generalize Lib.bytesWorld ((w.alloc (.cells #[.bool false] 4)).alloc (.cells #[.slice none 0 0] 70)) 5 (str l) = w2 at *
  generalize grownCap ((w.alloc (.cells #[.bool false] 4)).alloc (.cells #[.slice none 0 0] 70)) (str l).size 0 5 = cap at *
  rw [hss]
  clear hss H2 hsz hcv
  generalize w.heap.size + 1 + 1 = g at *
  generalize w.heap.size + 1 = q at *
  generalize w.heap.size = b0 at *
  have H4 := H3.alloc #[.slice (some ⟨g, 0, none⟩) l.length cap] 40
  refine back_calls.mono ?_
  rintro e w3 ⟨rfl, rfl⟩
  go_wp2_with fail
  generalize w2.heap.size = bx at *
  generalize w2.alloc (.cells #[.slice (some ⟨g, 0, none⟩) l.length cap] 40) = w3 at *
  have HR := Lib.hid hread
  clear hread H3 H
  have H5 : Sep w3 (begI l q b0 0 :: HP.pt bx #[.slice (some ⟨g, 0, none⟩) l.length cap] 40 :: HP.obj g o :: R) := by
    have h1 := Stk.shut (s := []) ((H4.rot4.rot4.row_nil 75 2).swap)
    exact Sep.ex_intro [] (Sep.all_intro (Sep.pure_intro (by rw [Nat.sub_zero, List.drop_length]; rfl) h1))
  refine wp_rangeFunc_sep (gf := 51) (lb := #[.pointer (some ⟨bx, 0, none⟩)]) rfl (enters_of Try.func51 (by kernel_rfl) rfl) (encs := bkArgs l) (N := l.length)
    (fun ll J Jx W hJ hY h0 => back1_in (by omega) HR.out ll J Jx W hJ hY h0) (fun _ => rfl) (begI l q b0) (begX l b0) H5 ?_ ?assign ?body ?done ?stop
  case assign =>
    intro ll x W K hK
    simp only [bkArgs]
    gi_wp2
    exact hK
  case body =>
    intro ll k R' W H hk
    clear H5 H4
    obtain ⟨s, H⟩ := H.ex_elim
    obtain ⟨hs, H⟩ := Sep.pure_elim H.all_elim
    have hkd := drop_bk hk
    obtain ⟨hsm, hsl⟩ := stk_sum hs
    have hld : (l.drop (l.length - k)).length = k := by rw [List.length_drop]; omega
    rw [hld] at hsm hsl
    have hw := word_calls (c := bk l k) (by omega) (fun x hx => by have := sumS_mem hx; omega) H
    gi_wp2
    refine ⟨trivial, ?_⟩
    refine (CallsIn.inRound ll (callsIn_wide.2 hw)).mono ?_
    clear hw
    rintro e w2 hr
    cases hkk : kindOf (bk l k) with
    | none =>
      rw [hkk] at hr
      obtain ⟨rfl, H2⟩ := hr
      have hbg : begB l = false := stk_drop_none (k := l.length - (k + 1)) (by rw [hkd]; simp [stk, hkk])
      clear hkd hs hkk H
      have H3 := ((H2.alloc #[.int .i64 0, .bool false] 75).rot3)
      have c0 := H3.cell 0 rfl
      have f0 := H3.froz 0
      have HG := Lib.hid hbg
      clear hbg
      gi_wp2
      have H4 := (H3.set 0 (.bool false)).swap.tail.swap.tail
      exact Sep.all_intro (Sep.pure_intro ⟨rfl, HG.out⟩ H4)
    | some kk =>
      rw [hkk] at hr
      obtain ⟨rfl, H2⟩ := hr
      have hst : ∀ s', stk (l.drop (l.length - (k + 1))) = some s' ↔ 3 ≤ (wordS kk s).1.1 ∧ s' = (wordS kk s).1 :: (wordS kk s).2 := by
        intro s'
        rw [hkd, stk_cons]
        constructor
        · rintro ⟨k', u, e1, e2, e3, e4⟩
          rw [hkk] at e1; rw [hs] at e2
          cases e1; cases e2
          exact ⟨e3, e4⟩
        · exact fun h => ⟨kk, s, hkk, hs, h.1, h.2⟩
      have hwl := wordS_len kk s
      have hws := wordS_sum kk s
      clear hkd hs hkk H
      generalize (wordS kk s).2 = s1 at *
      generalize (wordS kk s).1 = nm at *
      obtain ⟨n, m⟩ := nm
      simp only at hst hws H2
      by_cases hlt : n < 3
      · have hbg : begB l = false := stk_drop_none (k := l.length - (k + 1)) (by
          cases h : stk (l.drop (l.length - (k + 1))) with
          | none => rfl
          | some s' => have := ((hst s').1 h).1; omega)
        have H3 := ((H2.alloc #[.int .i64 n, .bool m] 75).rot3)
        have c0 := H3.cell 0 rfl
        have f0 := H3.froz 0
        have HG := Lib.hid hbg
        clear hbg hst
        gi_wp2
        have H4 := (H3.set 0 (.bool false)).swap.tail.swap.tail
        exact Sep.all_intro (Sep.pure_intro ⟨rfl, HG.out⟩ H4)
      · have hnew := (hst ((n, m) :: s1)).2 ⟨by omega, rfl⟩
        have HN := Lib.hid hnew
        have hs1l : s1.length ≤ 1000 := by omega
        clear hnew hst hwl hws hsm hsl hld
        obtain ⟨v, H3⟩ := Stk.open H2
        have H4 := H3.alloc #[.int .i64 n, .bool m] 75
        have c0 := H4.swap.cell 0 rfl
        have hone : ∀ u ∈ [Value.int .i64 n, .bool m], u.oneCell' = true := by intro u hu; simp at hu; rcases hu with rfl | rfl <;> rfl
        have hd : decide (n < 3) = false := decide_eq_false hlt
        gi_wp2_with (gi_at_builtin; refine wpListIn_append_new rfl _ _ 70 rfl 75 _ 2 16 Try.underlying70 info_span rfl (by decide) v s1.length (spcs s1) [.int .i64 n, .bool m] rfl hone rfl H4.rot3 (w2.heap.size + 1) (by rw [World.size_alloc]) rfl (by simp only [maxLen]; omega) (by omega) ?_; intro g' cap' w5 H5; have c5 := H5.tail.tail.cell 0 rfl; have f5 := H5.tail.tail.froz 0)
        have H6 := Stk.shut (s := (n, m) :: s1) (H5.rot3.set 0 (.slice (some ⟨g', 0, none⟩) (s1.length + 1) cap'))
        exact Sep.ex_intro _ (Sep.all_intro (Sep.pure_intro HN.out H6.swap.tail))
  case stop =>
    intro D c W H
    obtain ⟨⟨rfl, hb⟩, H0⟩ := Sep.pure_elim H.all_elim
    clear H
    go_wp2_with fail
    have H6 : Sep (W.putObj D (.deferred none)) (HP.pt b0 #[.bool false] 4 :: HP.obj D (.deferred none) :: HP.pt bx #[.slice (some ⟨g, 0, none⟩) l.length cap] 40 :: HP.obj g o :: R) := (H0.swap.obj_put (.deferred none)).swap
    have hl := loadVar_plain (P := Try.prog) Try.underlying4 rfl (H6.cell 0 rfl)
    refine ⟨by simp, .inl ⟨_, _, rfl, run_takeDeferred H0.swap.obj_get, ?_⟩⟩
    refine ⟨_, results_cell1 rfl rfl hl, ?_⟩
    exact ⟨by rw [hb]; rfl, H6.tail.tail.tail.tail⟩
  case done =>
    intro D W H
    obtain ⟨s, H⟩ := H.ex_elim
    obtain ⟨hs, H⟩ := Sep.pure_elim H.all_elim
    rw [Nat.sub_self, List.drop_zero] at hs
    have hbg : begB l = (decide (l = []) || (decide (s.length = 1) && decide ((s.headD (0, false)).1 = 3))) := by unfold begB; rw [hs]
    have hge := begins_of.stk_ge hs
    obtain ⟨_, hsl⟩ := stk_sum hs
    obtain ⟨v, H⟩ := Stk.open H
    obtain ⟨va, vc, rfl⟩ := H.tail.row_form
    have hln : s = [] ↔ l = [] := by
      cases l with
      | nil => simp [stk] at hs; simp [hs]
      | cons c l => exact ⟨fun e => absurd e (stk_ne hs), fun e => by cases e⟩
    have H1 : Sep W (HP.pt b0 #[.bool false] 4 :: HP.pt q #[.slice va s.length vc] 70 :: HP.row 75 2 (.slice va s.length vc) s.length (spcs s) :: HP.obj D (.deferred (some [])) :: HP.pt bx #[.slice (some ⟨g, 0, none⟩) l.length cap] 40 :: HP.obj g o :: R) := Sep.rot3 H
    clear H H5 hs
    have c0 := H1.tail.cell 0 rfl
    have b0c := H1.cell 0 rfl
    have b0f := H1.froz 0
    rcases s with _ | ⟨⟨n, m⟩, _ | ⟨y, s⟩⟩
    · have HB : Hid (begB l = true) := Lib.hid (by rw [hbg, decide_eq_true (hln.1 rfl)]; rfl)
      clear hbg hln
      go_wp2_with fail
      have H2 := (H1.set 0 (.bool true)).tail2
      have H6 := (H2.swap.obj_put (.deferred none)).swap
      have hl := loadVar_plain (P := Try.prog) Try.underlying4 rfl (H6.cell 0 rfl)
      refine ⟨by simp, .inl ⟨_, _, rfl, run_takeDeferred H2.swap.obj_get, ?_⟩⟩
      refine ⟨_, results_cell1 rfl rfl hl, ?_⟩
      exact ⟨by rw [HB.out]; rfl, H6.tail.tail.tail.tail⟩
    · have hl0 : l ≠ [] := fun e => by have := hln.2 e; cases this
      have h3 := hge _ (List.mem_cons_self ..)
      simp only at h3
      have hrd := H1.tail.tail.rd
      obtain ⟨g2, o2, c2, he⟩ := hrd.open (by simp)
      simp only [Value.slice.injEq, true_and] at he
      obtain ⟨rfl, rfl⟩ := he
      have r0 := hrd.cell 0 (spcs_get0 (n, m) [])
      have r1 := hrd.cell 1 (spcs_get1 (n, m) [])
      have HB : Hid (begB l = decide (n = 3)) := Lib.hid (by rw [hbg, decide_eq_false hl0]; rfl)
      clear hbg hln hrd
      simp only [Nat.add_zero] at r0
      by_cases hn : n = 3
      · subst hn
        go_wp2_with fail
        have H2 := (H1.set 0 (.bool true)).tail2
        have H6 := (H2.swap.obj_put (.deferred none)).swap
        have hl := loadVar_plain (P := Try.prog) Try.underlying4 rfl (H6.cell 0 rfl)
        refine ⟨by simp, .inl ⟨_, _, rfl, run_takeDeferred H2.swap.obj_get, ?_⟩⟩
        refine ⟨_, results_cell1 rfl rfl hl, ?_⟩
        exact ⟨by rw [HB.out]; rfl, H6.tail.tail.tail.tail⟩
      · have e1 : (n == 3) = false := by simp [hn]
        have e2 : decide (n < 3) = false := decide_eq_false (by omega)
        cases m with
        | true =>
          go_wp2_with fail
          have H2 := (H1.set 0 (.bool false)).tail2
          have H6 := (H2.swap.obj_put (.deferred none)).swap
          have hl := loadVar_plain (P := Try.prog) Try.underlying4 rfl (H6.cell 0 rfl)
          refine ⟨by simp, .inl ⟨_, _, rfl, run_takeDeferred H2.swap.obj_get, ?_⟩⟩
          refine ⟨_, results_cell1 rfl rfl hl, ?_⟩
          exact ⟨by rw [HB.out, decide_eq_false hn]; rfl, H6.tail.tail.tail.tail⟩
        | false =>
          go_wp2_with fail
          have H2 := (H1.set 0 (.bool false)).tail2
          have H6 := (H2.swap.obj_put (.deferred none)).swap
          have hl := loadVar_plain (P := Try.prog) Try.underlying4 rfl (H6.cell 0 rfl)
          refine ⟨by simp, .inl ⟨_, _, rfl, run_takeDeferred H2.swap.obj_get, ?_⟩⟩
          refine ⟨_, results_cell1 rfl rfl hl, ?_⟩
          exact ⟨by rw [HB.out, decide_eq_false hn]; rfl, H6.tail.tail.tail.tail⟩
    · have hl0 : l ≠ [] := fun e => by have := hln.2 e; cases this
      have HB : Hid (begB l = false) := Lib.hid (by rw [hbg, decide_eq_false hl0]; rfl)
      have e1 : ((s.length : Int) + 1 + 1 == 1) = false := by simp; omega
      have e2 : ((s.length : Int) + 1 + 1 == 0) = false := by simp; omega
      clear hbg hln
      go_wp2_with fail
      have H2 := (H1.set 0 (.bool false)).tail2
      have H6 := (H2.swap.obj_put (.deferred none)).swap
      have hl := loadVar_plain (P := Try.prog) Try.underlying4 rfl (H6.cell 0 rfl)
      refine ⟨by simp, .inl ⟨_, _, rfl, run_takeDeferred H2.swap.obj_get, ?_⟩⟩
      refine ⟨_, results_cell1 rfl rfl hl, ?_⟩
      exact ⟨by rw [HB.out]; rfl, H6.tail.tail.tail.tail⟩

end Go.Proofs.Ytmihlbecmagmbaa
