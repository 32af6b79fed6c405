/- word: a letter's span. -/
import Derived.Test.YtmihlbecmagmbaaWord2
namespace Go.Proofs.Ytmihlbecmagmbaa
open Go.RowKit Go.Shelf

set_option maxRecDepth 100000 in
set_option maxHeartbeats 2000000 in
theorem word_calls {q : Nat} {c : UInt8} {s : List (Int × Bool)} {R : List HP} {w : World} (hs : s.length ≤ 100000) (hb : ∀ x ∈ s, -1000000000000 ≤ x.1 ∧ x.1 ≤ 1000000000000) (H : Sep w (Stk q s :: R)) :
    Calls Try.prog 42 #[.pointer (some ⟨q, 0, none⟩), .int .u8 (c.toNat : Int)] w fun e w' =>
      match kindOf c with
      | none => e = .returned (.tuple #[.agg #[.int .i64 0, .bool false], .bool false]) ∧ Sep w' (Stk q s :: R)
      | some k => e = .returned (.tuple #[.agg #[.int .i64 (wordS k s).1.1, .bool (wordS k s).1.2], .bool true]) ∧ Sep w' (Stk q (wordS k s).2 :: R) := by
  have hk := kind_cases c
  have hcl : codeL c = match kindOf c with | none => [] | some k => k.bits := rfl
  have hcc := fun w => code_calls (c := c) (w := w)
  have hpb : ∀ s' : List (Int × Bool), (∀ x ∈ s', -1000000000000 ≤ x.1 ∧ x.1 ≤ 1000000000000) → -1000000000000 ≤ (popS s').1.1 ∧ (popS s').1.1 ≤ 1000000000000 ∧ (∀ x ∈ (popS s').2, -1000000000000 ≤ x.1 ∧ x.1 ≤ 1000000000000) := by
    intro s' h
    cases s' with
    | nil => exact ⟨by decide, by decide, fun x hx => by cases hx⟩
    | cons x s' => exact ⟨(h x (List.mem_cons_self ..)).1, (h x (List.mem_cons_self ..)).2, fun y hy => h y (List.mem_cons_of_mem _ hy)⟩
  obtain ⟨b1, b2, b3⟩ := hpb s hb
  obtain ⟨b4, b5, _⟩ := hpb _ b3
  have hpl := popS_len s
  have H1 := H.alloc #[.int .i64 0, .bool false] 75
  have hpop := fun (w' : World) (R' : List HP) (h : Sep w' (Stk q s :: R')) => pop_calls hs h
  have hpop2 := fun (w' : World) (R' : List HP) (h : Sep w' (Stk q (popS s).2 :: R')) => pop_calls (by omega) h
  have HCC := Lib.hid hcc
  have HP1 := Lib.hid hpop
  have HP2 := Lib.hid hpop2
  have EC : Hid (wordS .C s = (((if (popS s).1.2 then max ((popS s).1.1 - 1) 3 else (popS s).1.1 - 1), (popS s).1.2), (popS s).2)) := Lib.hid rfl
  have ES : Hid (wordS .S s = (((popS s).1.1 + (popS (popS s).2).1.1 - 1, (popS s).1.2 || (popS (popS s).2).1.2), (popS (popS s).2).2)) := Lib.hid rfl
  have ER : Hid (wordS .R s = (((popS s).1.1 + 1, (popS s).1.2), (popS s).2)) := Lib.hid rfl
  have EL : Hid (wordS .L s = (((popS s).1.1 + 1, (popS s).1.2), (popS s).2)) := Lib.hid rfl
  clear hcc hpop hpop2 hpb hb b3 H hpl
  generalize popS s = p at *
  obtain ⟨⟨n, m⟩, s1⟩ := p
  simp only at b1 b2 b4 b5 HP1 HP2 EC ES ER EL
  generalize popS s1 = p2 at *
  obtain ⟨⟨n2, m2⟩, s2⟩ := p2
  simp only at b4 b5 HP2 ES
  go_enter Try.func42, Try.ntmps42
  generalize codeL c = L at *
  generalize hcv : codeV c = V at *
  generalize c.toNat = x at *
  generalize kindOf c = kc at *
  go_wp2_with fail
  generalize w.heap.size = pb at *
  generalize w.alloc (.cells #[.int .i64 0, .bool false] 75) = W at *
  refine (HCC.out _).mono ?_
  rintro e w1 ⟨rfl, rfl⟩
  rcases hk with ⟨rfl, rfl⟩ | ⟨rfl, rfl⟩ | ⟨rfl, rfl⟩ | ⟨rfl, rfl⟩ | ⟨rfl, rfl⟩ | ⟨rfl, h1, h2, h3, h4, h5⟩
  all_goals (simp only [Lt.bits] at hcl; subst hcl)
  · -- C
    go_wp2_with fail
    refine (HP1.out _ _ H1.swap).mono ?_
    rintro e w2 ⟨rfl, H2⟩
    clear H1 HP1
    cases m with
    | false =>
      have H3 := (H2.alloc #[.int .i64 (n - 1), .bool false] 75).rot3
      have f0 := H3.froz 0
      have f1 := H3.froz 1
      have p0 := H3.cell 0 rfl
      have p1 := H3.cell 1 rfl
      go_wp2_with fail
      have H4 := (H3.set 0 (.int .i64 (n - 1))).set 1 (.bool false)
      have hl := load_span H4
      refine bodyPost_ret (results_cell1_tmp rfl rfl hl) rfl ?_
      exact ⟨by rw [EC.out]; rfl, by rw [EC.out]; exact H4.tail.tail⟩
    | true =>
      by_cases hx : n - 1 < 3
      · have H3 := (H2.alloc #[.int .i64 (3), .bool true] 75).rot3
        have f0 := H3.froz 0
        have f1 := H3.froz 1
        have p0 := H3.cell 0 rfl
        have p1 := H3.cell 1 rfl
        go_wp2_with fail
        have H4 := (H3.set 0 (.int .i64 (3))).set 1 (.bool true)
        have hl := load_span H4
        refine bodyPost_ret (results_cell1_tmp rfl rfl hl) rfl ?_
        have hm : max (n - 1) 3 = 3 := by omega
        rw [← hm] at H4 ⊢
        exact ⟨by rw [EC.out]; rfl, by rw [EC.out]; exact H4.tail.tail⟩
      · have H3 := (H2.alloc #[.int .i64 (n - 1), .bool true] 75).rot3
        have f0 := H3.froz 0
        have f1 := H3.froz 1
        have p0 := H3.cell 0 rfl
        have p1 := H3.cell 1 rfl
        go_wp2_with fail
        have H4 := (H3.set 0 (.int .i64 (n - 1))).set 1 (.bool true)
        have hl := load_span H4
        refine bodyPost_ret (results_cell1_tmp rfl rfl hl) rfl ?_
        have hm : max (n - 1) 3 = n - 1 := by omega
        rw [← hm] at H4 ⊢
        exact ⟨by rw [EC.out]; rfl, by rw [EC.out]; exact H4.tail.tail⟩
  · -- S
    go_wp2_with fail
    refine (HP1.out _ _ H1.swap).mono ?_
    rintro e w2 ⟨rfl, H2⟩
    clear H1 HP1
    go_wp2_with fail
    have H3 := H2.alloc #[.int .i64 n, .bool m] 75
    generalize w2.heap.size = px at *
    generalize w2.alloc (.cells #[.int .i64 n, .bool m] 75) = W3 at *
    refine (HP2.out _ _ H3.swap).mono ?_
    rintro e w4 ⟨rfl, H4⟩
    clear H2 H3 HP2
    have H5 := ((H4.alloc #[.int .i64 n2, .bool m2] 75).rot4).swap.tail.rot3
    have c0 := H5.cell 0 rfl
    have c1 := H5.cell 1 rfl
    have f0 := H5.froz 0
    have f1 := H5.froz 1
    have p0 := H5.swap.cell 0 rfl
    have p1 := H5.swap.cell 1 rfl
    have g0 := H5.swap.froz 0
    have g1 := H5.swap.froz 1
    have hne := H5.ne
    have hne2 := H5.swap.ne
    cases m with
    | false =>
      go_wp2_with fail
      have H6 := (((H5.set 0 (.int .i64 (n + n2 - 1))).set 1 (.bool m2)).swap.set 0 (.int .i64 (n + n2 - 1))).set 1 (.bool m2)
      have hl := load_span H6
      refine bodyPost_ret (results_cell1_tmp rfl rfl hl) rfl ?_
      exact ⟨by rw [ES.out]; rfl, by rw [ES.out]; exact H6.tail.tail⟩
    | true =>
      go_wp2_with fail
      have H6 := (((H5.set 0 (.int .i64 (n + n2 - 1))).set 1 (.bool true)).swap.set 0 (.int .i64 (n + n2 - 1))).set 1 (.bool true)
      have hl := load_span H6
      refine bodyPost_ret (results_cell1_tmp rfl rfl hl) rfl ?_
      exact ⟨by rw [ES.out]; rfl, by rw [ES.out]; exact H6.tail.tail⟩
  · -- R, L
    go_wp2_with fail
    refine (HP1.out _ _ H1.swap).mono ?_
    rintro e w2 ⟨rfl, H2⟩
    clear H1 HP1
    have H3 := (H2.alloc #[.int .i64 (n + 1), .bool m] 75).rot3
    have f0 := H3.froz 0
    have f1 := H3.froz 1
    have p0 := H3.cell 0 rfl
    have p1 := H3.cell 1 rfl
    go_wp2_with fail
    have H4 := (H3.set 0 (.int .i64 (n + 1))).set 1 (.bool m)
    have hl := load_span H4
    refine bodyPost_ret (results_cell1_tmp rfl rfl hl) rfl ?_
    exact ⟨by rw [ER.out]; rfl, by rw [ER.out]; exact H4.tail.tail⟩
  · -- R, L
    go_wp2_with fail
    refine (HP1.out _ _ H1.swap).mono ?_
    rintro e w2 ⟨rfl, H2⟩
    clear H1 HP1
    have H3 := (H2.alloc #[.int .i64 (n + 1), .bool m] 75).rot3
    have f0 := H3.froz 0
    have f1 := H3.froz 1
    have p0 := H3.cell 0 rfl
    have p1 := H3.cell 1 rfl
    go_wp2_with fail
    have H4 := (H3.set 0 (.int .i64 (n + 1))).set 1 (.bool m)
    have hl := load_span H4
    refine bodyPost_ret (results_cell1_tmp rfl rfl hl) rfl ?_
    exact ⟨by rw [EL.out]; rfl, by rw [EL.out]; exact H4.tail.tail⟩
  · -- E
    have f0 := H1.froz 0
    have f1 := H1.froz 1
    have p0 := H1.cell 0 rfl
    have p1 := H1.cell 1 rfl
    go_wp2_with fail
    have H6 := (H1.set 0 (.int .i64 3)).set 1 (.bool false)
    have hl := load_span H6
    refine bodyPost_ret (results_cell1_tmp rfl rfl hl) rfl ?_
    exact ⟨rfl, H6.tail⟩
  · have f0 := H1.froz 0
    have f1 := H1.froz 1
    have p0 := H1.cell 0 rfl
    have p1 := H1.cell 1 rfl
    go_wp2_with fail
    have H6 := (H1.set 0 (.int .i64 0)).set 1 (.bool false)
    have hl := load_span H6
    refine bodyPost_ret (results_cell1_tmp rfl rfl hl) rfl ?_
    exact ⟨rfl, H6.tail⟩

end Go.Proofs.Ytmihlbecmagmbaa
