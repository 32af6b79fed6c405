/- Law 29: ResidualTells. -/
import Derived.Test.YtbhpcpcpccmacaaLaw29c
namespace Go.Proofs.Ytbhpcpcpccmacaa
open Go.RowKit Go.Shelf

theorem ronB {a b c : Int} {B : Bool} {G : List HP} {w : World} (hb : decide (OnP [a, b, c]) = B) (hs : Sep w G) : Calls Try.prog 19 #[.agg #[.int .i64 a, .int .i64 b, .int .i64 c]] w fun e w' => e = .returned (.bool B) ∧ Sep w' G := by
  have := ron_calls (p := [a, b, c]) rfl hs
  rw [hb] at this
  exact this

set_option maxRecDepth 100000 in
set_option maxHeartbeats 8000000 in
theorem law_ResidualTells (v0 : Value) (p : List Int) {w : World} (hp : PntArg w v0 p) (v1 : Value) (q : List Int) (hq : PntArg w v1 q) (v2 : Value) (r : List Nat) (hr : ResArg w v2 r) :
    Calls Try.prog 12 #[v0, v1, v2] w fun e w' => e = .returned (.bool true) ∧ Below w.heap.size w w' := by
  obtain ⟨rfl, hp3⟩ := hp
  obtain ⟨rfl, hq3⟩ := hq
  obtain ⟨rfl, hr3, hr64⟩ := hr
  have HONP := Lib.hid fun (G : List HP) (w' : World) (hs : Sep w' G) => ron_calls hp3 hs
  have HONQ := Lib.hid fun (G : List HP) (w' : World) (hs : Sep w' G) => ron_calls hq3 hs
  have HADD := Lib.hid fun (G : List HP) (w' : World) (hs : Sep w' G) => padd_calls hq3 hr3 hr64 hs
  have HRAD := Lib.hid fun (G : List HP) (w' : World) (hs : Sep w' G) => radd_calls hq3 hr3 hr64 hs
  have HOF : Hid (OnP p → OnP q → ∀ (G : List HP) (w' : World), Sep w' G → Calls Try.prog 21 #[pv p, pv q] w' fun e w2 => e = .returned (rv (ofL p q)) ∧ Sep w2 G) := Lib.hid fun h1 h2 G w' hs => pof_calls hp3 hq3 h1 h2 hs
  have HROF : Hid (OnP p → OnP q → ∀ (G : List HP) (w' : World), Sep w' G → Calls Try.prog 35 #[pv p, pv q] w' fun e w2 => e = .returned (rv (ofL p q)) ∧ Sep w2 G) := Lib.hid fun h1 h2 G w' hs => rof_calls hp3 hq3 h1 h2 hs
  obtain ⟨n0, n1, n2, hn⟩ := list_three (ofL_length hp3 hq3)
  have hal : (addP q r).length = 3 := by
    unfold addP
    split
    · exact addL_length hq3 hr3
    · rfl
  obtain ⟨m0, m1, m2, hm⟩ := list_three hal
  rw [hn] at HOF HROF
  rw [hm] at HADD HRAD
  clear hn hm hal
  obtain ⟨x0, x1, x2, rfl⟩ := list_three hp3
  obtain ⟨y0, y1, y2, rfl⟩ := list_three hq3
  obtain ⟨u0, u1, u2, rfl⟩ := list_three hr3
  clear hp3 hq3 hr3 hr64
  have H := Sep.start w
  generalize hB : HP.old w.heap.size w = O at H
  have HB := Lib.hid hB; clear hB
  have H1 := H.alloc #[.int .i64 x0, .int .i64 x1, .int .i64 x2] 23
  have H2 := H1.alloc #[.int .i64 y0, .int .i64 y1, .int .i64 y2] 23
  have H3 := H2.alloc #[.int .u64 (u0 : Int), .int .u64 (u1 : Int), .int .u64 (u2 : Int)] 29
  simp only [World.size_alloc] at H2 H3
  clear H1 H2 H
  show Calls Try.prog 12 #[.agg #[.int .i64 x0, .int .i64 x1, .int .i64 x2], .agg #[.int .i64 y0, .int .i64 y1, .int .i64 y2], .agg #[.int .u64 (u0 : Int), .int .u64 (u1 : Int), .int .u64 (u2 : Int)]] w _
  go_enter Try.func12, Try.ntmps12
  go_wp2_with fail
  generalize w.heap.size + 1 + 1 = q5 at *
  generalize w.heap.size + 1 = q4 at *
  generalize ((w.alloc _).alloc _).alloc _ = w3 at *
  refine (awake29 H3).mono ?_
  rintro e w4 ⟨rfl, H4⟩
  clear H3
  have d0 := H4.tail.cell 0 rfl
  have d1 := H4.tail.cell 1 rfl
  have d2 := H4.tail.cell 2 rfl
  have e0 := H4.cell 0 rfl
  have e1 := H4.cell 1 rfl
  have e2 := H4.cell 2 rfl
  obtain ⟨fe, hfe⟩ : ∃ fe : Int, fe = if Good [y0, y1, y2] [u0, u1, u2] then 0 else 2 := ⟨_, rfl⟩
  have AC0 := HADD.out _ _ H4
  rw [← hfe] at AC0
  have HFE := Lib.hid hfe
  clear hfe
  have AC : Calls Try.prog 33 #[.agg #[.int .i64 y0, .int .i64 y1, .int .i64 y2], .agg #[.int .u64 (u0 : Int), .int .u64 (u1 : Int), .int .u64 (u2 : Int)]] w4 (fun e w2 => e = .returned (.tuple #[.agg #[.int .i64 m0, .int .i64 m1, .int .i64 m2], .int .i64 fe]) ∧ Sep w2 _) := AC0
  clear AC0
  go_wp2_with fail
  refine AC.mono ?_
  rintro _ w5 ⟨rfl, H5⟩
  clear AC H4 d0 d1 d2 e0 e1 e2
  have H6 := H5.alloc #[.int .i64 m0, .int .i64 m1, .int .i64 m2] 23
  have d0 := H6.tail.tail.cell 0 rfl
  have d1 := H6.tail.tail.cell 1 rfl
  have d2 := H6.tail.tail.cell 2 rfl
  have e0 := H6.tail.cell 0 rfl
  have e1 := H6.tail.cell 1 rfl
  have e2 := H6.tail.cell 2 rfl
  obtain ⟨gb, hgb⟩ : ∃ gb : Bool, gb = decide (Good [y0, y1, y2] [u0, u1, u2]) := ⟨_, rfl⟩
  have RC0 := HRAD.out _ _ H6
  rw [← hgb] at RC0
  have HGB := Lib.hid hgb
  clear hgb
  have RC : Calls Try.prog 34 #[.agg #[.int .i64 y0, .int .i64 y1, .int .i64 y2], .agg #[.int .u64 (u0 : Int), .int .u64 (u1 : Int), .int .u64 (u2 : Int)]] _ (fun e w2 => e = .returned (.tuple #[.agg #[.int .i64 m0, .int .i64 m1, .int .i64 m2], .bool gb]) ∧ Sep w2 _) := RC0
  clear RC0
  go_wp2_with fail
  generalize w5.alloc _ = w6 at *
  generalize w5.heap.size = q7 at *
  refine RC.mono ?_
  rintro _ w7 ⟨rfl, H7⟩
  clear RC H5 H6 d0 d1 d2 e0 e1 e2
  have H8 := H7.alloc #[.int .i64 m0, .int .i64 m1, .int .i64 m2] 23
  have a0 := H8.cell 0 rfl
  have a1 := H8.cell 1 rfl
  have a2 := H8.cell 2 rfl
  have b0 := H8.tail.cell 0 rfl
  have b1 := H8.tail.cell 1 rfl
  have b2 := H8.tail.cell 2 rfl
  have eqp := fun w : World => eq_pnt m0 m1 m2 m0 m1 m2 w
  rw [decide_eq_true ⟨rfl, rfl, rfl⟩] at eqp
  have eqn := fun w : World => eq_arr (n0 : Int) (n1 : Int) (n2 : Int) (n0 : Int) (n1 : Int) (n2 : Int) w
  rw [decide_eq_true ⟨rfl, rfl, rfl⟩] at eqn
  have eqg := eqg_arr
  have eqh := eqg_pnt
  have hcase : (fe = 0 ∧ gb = true) ∨ (fe = 2 ∧ gb = false) := by
    have hfe := HFE.out
    have hgb := HGB.out
    by_cases hg : Good [y0, y1, y2] [u0, u1, u2]
    · rw [if_pos hg] at hfe; rw [decide_eq_true hg] at hgb; exact .inl ⟨hfe, hgb⟩
    · rw [if_neg hg] at hfe; rw [decide_eq_false hg] at hgb; exact .inr ⟨hfe, hgb⟩
  clear HFE HGB
  rcases hcase with ⟨rfl, rfl⟩ | ⟨rfl, rfl⟩
  all_goals (
    go_wp2_with fail
    generalize w7.alloc _ = w8 at *
    generalize w7.heap.size = q9 at *
    clear a0 a1 a2 b0 b1 b2
    have c0 := H8.tail.tail.tail.tail.cell 0 rfl
    have c1 := H8.tail.tail.tail.tail.cell 1 rfl
    have c2 := H8.tail.tail.tail.tail.cell 2 rfl
    have d0 := H8.tail.tail.tail.cell 0 rfl
    have d1 := H8.tail.tail.tail.cell 1 rfl
    have d2 := H8.tail.tail.tail.cell 2 rfl
    have H8d := H8.drew
    clear H8
    by_cases op : OnP [x0, x1, x2]
    · have hop := decide_eq_true op
      by_cases oq : OnP [y0, y1, y2]
      · have hoq := decide_eq_true oq
        have OC : Hid (∀ (w' : World) (G : List HP), Sep w' G → Calls Try.prog 21 #[.agg #[.int .i64 x0, .int .i64 x1, .int .i64 x2], .agg #[.int .i64 y0, .int .i64 y1, .int .i64 y2]] w' (fun e w2 => e = .returned (.agg #[.int .u64 (n0 : Int), .int .u64 (n1 : Int), .int .u64 (n2 : Int)]) ∧ Sep w2 G)) := Lib.hid fun w' G h => HOF.out op oq _ _ h
        have ROC : Hid (∀ (w' : World) (G : List HP), Sep w' G → Calls Try.prog 35 #[.agg #[.int .i64 x0, .int .i64 x1, .int .i64 x2], .agg #[.int .i64 y0, .int .i64 y1, .int .i64 y2]] w' (fun e w2 => e = .returned (.agg #[.int .u64 (n0 : Int), .int .u64 (n1 : Int), .int .u64 (n2 : Int)]) ∧ Sep w2 G)) := Lib.hid fun w' G h => HROF.out op oq _ _ h
        clear op oq
        go_region_held3 (fun w' => w'.cell? ⟨w.heap.size, 0, none⟩ = some (.int .i64 x0) ∧ w'.cell? ⟨w.heap.size, 1, none⟩ = some (.int .i64 x1) ∧ w'.cell? ⟨w.heap.size, 2, none⟩ = some (.int .i64 x2) ∧ w'.cell? ⟨q4, 0, none⟩ = some (.int .i64 y0) ∧ w'.cell? ⟨q4, 1, none⟩ = some (.int .i64 y1) ∧ w'.cell? ⟨q4, 2, none⟩ = some (.int .i64 y2)) (first | exact ⟨c0, c1, c2, d0, d1, d2⟩ | exact ⟨H13.tail.tail.tail.tail.cell 0 rfl, H13.tail.tail.tail.tail.cell 1 rfl, H13.tail.tail.tail.tail.cell 2 rfl, H13.tail.tail.tail.cell 0 rfl, H13.tail.tail.tail.cell 1 rfl, H13.tail.tail.tail.cell 2 rfl⟩) (first | (go_at_call 19; refine (ronB (by assumption) (by assumption)).mono ?_; rintro _ w13 ⟨rfl, H13⟩) | (go_at_call 21; refine (OC.out _ _ (by assumption)).mono ?_; rintro _ w13 ⟨rfl, H13⟩) | (go_at_call 35; refine (ROC.out _ _ (by assumption)).mono ?_; rintro _ w13 ⟨rfl, H13⟩))
        all_goals (
          go_wp2_with fail
          go_ret
          subst HB
          exact ⟨by simp, H13.tail.tail.tail.tail.tail.below⟩)
      · have hoq := decide_eq_false oq
        clear op oq
        refine wp_region_held_drew (S := (fun w' => w'.cell? ⟨w.heap.size, 0, none⟩ = some (.int .i64 x0) ∧ w'.cell? ⟨w.heap.size, 1, none⟩ = some (.int .i64 x1) ∧ w'.cell? ⟨w.heap.size, 2, none⟩ = some (.int .i64 x2) ∧ w'.cell? ⟨q4, 0, none⟩ = some (.int .i64 y0) ∧ w'.cell? ⟨q4, 1, none⟩ = some (.int .i64 y1) ∧ w'.cell? ⟨q4, 2, none⟩ = some (.int .i64 y2))) (by kernel_rfl) ⟨c0, c1, c2, d0, d1, d2⟩ (fun hHeld => ?_)
        refine wpAnyH_take (i := 0) (v := (.agg #[.int .i64 x0, .int .i64 x1, .int .i64 x2])) rfl (by kernel_rfl) (by kernel_rfl) (by kernel_rfl) (fun _ _ _ h => h) (Or.inl ⟨by kernel_rfl, fun w' hSw => by (try dsimp only at hSw); go_simp⟩) (by assumption) ?_
        refine wpAnyH_ready (rs := [1]) (by kernel_rfl) (by simp) ?_
        refine AllReadyH.cons rfl (fun K hK => ?_) AllReadyH.nil
        go_simp
        go_at_call 19
        refine (ronB (by assumption) (by assumption)).mono ?_
        rintro _ w13 ⟨rfl, H13⟩
        try go_wp2_with fail
        refine hK.out _ _ ⟨H13.tail.tail.tail.tail.cell 0 rfl, H13.tail.tail.tail.tail.cell 1 rfl, H13.tail.tail.tail.tail.cell 2 rfl, H13.tail.tail.tail.cell 0 rfl, H13.tail.tail.tail.cell 1 rfl, H13.tail.tail.tail.cell 2 rfl⟩ (fun hHeld => ?_)
        clear hK K
        refine wpAnyH_take (i := 2) (v := (.bool false)) rfl (by kernel_rfl) (by kernel_rfl) (by kernel_rfl) (fun _ _ _ h => h) (Or.inl ⟨by kernel_rfl, fun w' hSw => by (try dsimp only at hSw); go_simp⟩) (by assumption) ?_
        refine wpAnyH_take (i := 3) (v := (.bool false)) rfl (by kernel_rfl) (by kernel_rfl) (by kernel_rfl) (fun _ _ _ h => h) (Or.inl ⟨by kernel_rfl, fun w' hSw => by (try dsimp only at hSw); go_simp⟩) (by assumption) ?_
        refine wpAnyH_take (i := 4) (v := (.agg #[.int .i64 y0, .int .i64 y1, .int .i64 y2])) rfl (by kernel_rfl) (by kernel_rfl) (by kernel_rfl) (fun _ _ _ h => h) (Or.inl ⟨by kernel_rfl, fun w' hSw => by (try dsimp only at hSw); go_simp⟩) (by assumption) ?_
        refine wpAnyH_ready (rs := [5]) (by kernel_rfl) (by simp) ?_
        refine AllReadyH.cons rfl (fun K hK => ?_) AllReadyH.nil
        go_simp
        go_at_call 19
        refine (ronB (by assumption) (by assumption)).mono ?_
        rintro _ w13 ⟨rfl, H13⟩
        try go_wp2_with fail
        refine hK.out _ _ ⟨H13.tail.tail.tail.tail.cell 0 rfl, H13.tail.tail.tail.tail.cell 1 rfl, H13.tail.tail.tail.tail.cell 2 rfl, H13.tail.tail.tail.cell 0 rfl, H13.tail.tail.tail.cell 1 rfl, H13.tail.tail.tail.cell 2 rfl⟩ (fun hHeld => ?_)
        clear hK K
        refine wpAnyH_take (i := 6) (v := (.bool true)) rfl (by kernel_rfl) (by kernel_rfl) (by kernel_rfl) (fun _ _ _ h => h) (Or.inl ⟨by kernel_rfl, fun w' hSw => by (try dsimp only at hSw); go_simp⟩) (by assumption) ?_
        refine wpAnyH_take (i := 7) (v := (.bool true)) rfl (by kernel_rfl) (by kernel_rfl) (by kernel_rfl) (fun _ _ _ h => h) (Or.inl ⟨by kernel_rfl, fun w' hSw => by (try dsimp only at hSw); go_simp⟩) (by assumption) ?_
        refine wpAnyH_take (i := 8) (v := (.bool true)) rfl (by kernel_rfl) (by kernel_rfl) (by kernel_rfl) (fun _ _ _ h => h) (Or.inl ⟨by kernel_rfl, fun w' hSw => by (try dsimp only at hSw); go_simp⟩) (by assumption) ?_
        refine wpAnyH_take (i := 9) (v := undef) rfl (by kernel_rfl) (by kernel_rfl) (by kernel_rfl) (fun _ _ _ h => h) (Or.inr ⟨by kernel_rfl, rfl⟩) (by assumption) ?_
        refine wpAnyH_take (i := 10) (v := undef) rfl (by kernel_rfl) (by kernel_rfl) (by kernel_rfl) (fun _ _ _ h => h) (Or.inr ⟨by kernel_rfl, rfl⟩) (by assumption) ?_
        refine wpAnyH_take (i := 11) (v := undef) rfl (by kernel_rfl) (by kernel_rfl) (by kernel_rfl) (fun _ _ _ h => h) (Or.inr ⟨by kernel_rfl, rfl⟩) (by assumption) ?_
        refine wpAnyH_take (i := 12) (v := undef) rfl (by kernel_rfl) (by kernel_rfl) (by kernel_rfl) (fun _ _ _ h => h) (Or.inr ⟨by kernel_rfl, rfl⟩) (by assumption) ?_
        refine wpAnyH_take (i := 13) (v := undef) rfl (by kernel_rfl) (by kernel_rfl) (by kernel_rfl) (fun _ _ _ h => h) (Or.inr ⟨by kernel_rfl, rfl⟩) (by assumption) ?_
        refine wpAnyH_take (i := 14) (v := undef) rfl (by kernel_rfl) (by kernel_rfl) (by kernel_rfl) (fun _ _ _ h => h) (Or.inr ⟨by kernel_rfl, rfl⟩) (by assumption) ?_
        refine wpAnyH_take (i := 15) (v := undef) rfl (by kernel_rfl) (by kernel_rfl) (by kernel_rfl) (fun _ _ _ h => h) (Or.inr ⟨by kernel_rfl, rfl⟩) (by assumption) ?_
        refine wpAnyH_take (i := 16) (v := (.bool true)) rfl (by kernel_rfl) (by kernel_rfl) (by kernel_rfl) (fun _ _ _ h => h) (Or.inl ⟨by kernel_rfl, fun w' hSw => by (try dsimp only at hSw); go_simp⟩) (by assumption) ?_
        refine wpAnyH_take (i := 17) (v := (.bool true)) rfl (by kernel_rfl) (by kernel_rfl) (by kernel_rfl) (fun _ _ _ h => h) (Or.inl ⟨by kernel_rfl, fun w' hSw => by (try dsimp only at hSw); go_simp⟩) (by assumption) ?_
        refine wpAnyH_done (by kernel_rfl) ?_ _
        go_wp2_with fail
        go_ret
        subst HB
        exact ⟨by kernel_rfl, H13.tail.tail.tail.tail.tail.below⟩
    · have hop := decide_eq_false op
      clear op
      refine wp_region_held_drew (S := (fun w' => w'.cell? ⟨w.heap.size, 0, none⟩ = some (.int .i64 x0) ∧ w'.cell? ⟨w.heap.size, 1, none⟩ = some (.int .i64 x1) ∧ w'.cell? ⟨w.heap.size, 2, none⟩ = some (.int .i64 x2) ∧ w'.cell? ⟨q4, 0, none⟩ = some (.int .i64 y0) ∧ w'.cell? ⟨q4, 1, none⟩ = some (.int .i64 y1) ∧ w'.cell? ⟨q4, 2, none⟩ = some (.int .i64 y2))) (by kernel_rfl) ⟨c0, c1, c2, d0, d1, d2⟩ (fun hHeld => ?_)
      refine wpAnyH_take (i := 0) (v := (.agg #[.int .i64 x0, .int .i64 x1, .int .i64 x2])) rfl (by kernel_rfl) (by kernel_rfl) (by kernel_rfl) (fun _ _ _ h => h) (Or.inl ⟨by kernel_rfl, fun w' hSw => by (try dsimp only at hSw); go_simp⟩) (by assumption) ?_
      refine wpAnyH_ready (rs := [1]) (by kernel_rfl) (by simp) ?_
      refine AllReadyH.cons rfl (fun K hK => ?_) AllReadyH.nil
      go_simp
      go_at_call 19
      refine (ronB (by assumption) (by assumption)).mono ?_
      rintro _ w13 ⟨rfl, H13⟩
      try go_wp2_with fail
      refine hK.out _ _ ⟨H13.tail.tail.tail.tail.cell 0 rfl, H13.tail.tail.tail.tail.cell 1 rfl, H13.tail.tail.tail.tail.cell 2 rfl, H13.tail.tail.tail.cell 0 rfl, H13.tail.tail.tail.cell 1 rfl, H13.tail.tail.tail.cell 2 rfl⟩ (fun hHeld => ?_)
      clear hK K
      refine wpAnyH_take (i := 2) (v := (.bool true)) rfl (by kernel_rfl) (by kernel_rfl) (by kernel_rfl) (fun _ _ _ h => h) (Or.inl ⟨by kernel_rfl, fun w' hSw => by (try dsimp only at hSw); go_simp⟩) (by assumption) ?_
      refine wpAnyH_take (i := 3) (v := (.bool true)) rfl (by kernel_rfl) (by kernel_rfl) (by kernel_rfl) (fun _ _ _ h => h) (Or.inl ⟨by kernel_rfl, fun w' hSw => by (try dsimp only at hSw); go_simp⟩) (by assumption) ?_
      refine wpAnyH_take (i := 4) (v := undef) rfl (by kernel_rfl) (by kernel_rfl) (by kernel_rfl) (fun _ _ _ h => h) (Or.inr ⟨by kernel_rfl, rfl⟩) (by assumption) ?_
      refine wpAnyH_take (i := 5) (v := undef) rfl (by kernel_rfl) (by kernel_rfl) (by kernel_rfl) (fun _ _ _ h => h) (Or.inr ⟨by kernel_rfl, rfl⟩) (by assumption) ?_
      refine wpAnyH_take (i := 6) (v := undef) rfl (by kernel_rfl) (by kernel_rfl) (by kernel_rfl) (fun _ _ _ h => h) (Or.inr ⟨by kernel_rfl, rfl⟩) (by assumption) ?_
      refine wpAnyH_take (i := 7) (v := (.bool true)) rfl (by kernel_rfl) (by kernel_rfl) (by kernel_rfl) (fun _ _ _ h => h) (Or.inl ⟨by kernel_rfl, fun w' hSw => by (try dsimp only at hSw); go_simp⟩) (by assumption) ?_
      refine wpAnyH_take (i := 8) (v := (.bool true)) rfl (by kernel_rfl) (by kernel_rfl) (by kernel_rfl) (fun _ _ _ h => h) (Or.inl ⟨by kernel_rfl, fun w' hSw => by (try dsimp only at hSw); go_simp⟩) (by assumption) ?_
      refine wpAnyH_take (i := 9) (v := undef) rfl (by kernel_rfl) (by kernel_rfl) (by kernel_rfl) (fun _ _ _ h => h) (Or.inr ⟨by kernel_rfl, rfl⟩) (by assumption) ?_
      refine wpAnyH_take (i := 10) (v := undef) rfl (by kernel_rfl) (by kernel_rfl) (by kernel_rfl) (fun _ _ _ h => h) (Or.inr ⟨by kernel_rfl, rfl⟩) (by assumption) ?_
      refine wpAnyH_take (i := 11) (v := undef) rfl (by kernel_rfl) (by kernel_rfl) (by kernel_rfl) (fun _ _ _ h => h) (Or.inr ⟨by kernel_rfl, rfl⟩) (by assumption) ?_
      refine wpAnyH_take (i := 12) (v := undef) rfl (by kernel_rfl) (by kernel_rfl) (by kernel_rfl) (fun _ _ _ h => h) (Or.inr ⟨by kernel_rfl, rfl⟩) (by assumption) ?_
      refine wpAnyH_take (i := 13) (v := undef) rfl (by kernel_rfl) (by kernel_rfl) (by kernel_rfl) (fun _ _ _ h => h) (Or.inr ⟨by kernel_rfl, rfl⟩) (by assumption) ?_
      refine wpAnyH_take (i := 14) (v := undef) rfl (by kernel_rfl) (by kernel_rfl) (by kernel_rfl) (fun _ _ _ h => h) (Or.inr ⟨by kernel_rfl, rfl⟩) (by assumption) ?_
      refine wpAnyH_take (i := 15) (v := undef) rfl (by kernel_rfl) (by kernel_rfl) (by kernel_rfl) (fun _ _ _ h => h) (Or.inr ⟨by kernel_rfl, rfl⟩) (by assumption) ?_
      refine wpAnyH_take (i := 16) (v := (.bool true)) rfl (by kernel_rfl) (by kernel_rfl) (by kernel_rfl) (fun _ _ _ h => h) (Or.inl ⟨by kernel_rfl, fun w' hSw => by (try dsimp only at hSw); go_simp⟩) (by assumption) ?_
      refine wpAnyH_take (i := 17) (v := (.bool true)) rfl (by kernel_rfl) (by kernel_rfl) (by kernel_rfl) (fun _ _ _ h => h) (Or.inl ⟨by kernel_rfl, fun w' hSw => by (try dsimp only at hSw); go_simp⟩) (by assumption) ?_
      refine wpAnyH_done (by kernel_rfl) ?_ _
      go_wp2_with fail
      go_ret
      subst HB
      exact ⟨by kernel_rfl, H13.tail.tail.tail.tail.tail.below⟩)

end Go.Proofs.Ytbhpcpcpccmacaa
