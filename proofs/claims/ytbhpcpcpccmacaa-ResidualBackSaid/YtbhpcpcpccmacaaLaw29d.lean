/- Law 29: ResidualBack: the walk. -/
import Derived.Test.YtbhpcpcpccmacaaLaw29c
namespace Go.Proofs.Ytbhpcpcpccmacaa
open Go.RowKit Go.Shelf

set_option maxRecDepth 100000 in
set_option maxHeartbeats 8000000 in
theorem law_ResidualBack (v0 : Value) (p : List Int) {w : World} (hp : PntArg w v0 p) (v1 : Value) (q : List Int) (hq : PntArg w v1 q) (v2 : Value) (r : List Nat) (hr : ResArg w v2 r) :
    Calls Try.prog 13 #[v0, v1, v2] w fun e w' => e = .returned (.bool true) ∧ Below w.heap.size w w' := by
  obtain ⟨rfl, hp3⟩ := hp
  obtain ⟨rfl, hq3⟩ := hq
  obtain ⟨rfl, hr3, hr64⟩ := hr
  have ON := Lib.hid fun (l : List Int) (h : l.length = 3) (G : List HP) (w' : World) (hs : Sep w' G) => ron_calls h hs
  have HONP := Lib.hid (ON.out p hp3)
  have HONQ := Lib.hid (ON.out q hq3)
  have HADD := Lib.hid fun (G : List HP) (w' : World) (hs : Sep w' G) => padd_calls hq3 hr3 hr64 hs
  have HOF : Hid (OnP p → OnP q → ∀ (G : List HP) (w' : World), Sep w' G → Calls Try.prog 21 #[pv p, pv q] w' fun e w2 => e = .returned (rv (ofL p q)) ∧ Sep w2 G) := Lib.hid fun h1 h2 G w' hs => pof_calls hp3 hq3 h1 h2 hs
  have HAD2 : Hid (OnP p → OnP q → ∀ (G : List HP) (w' : World), Sep w' G → Calls Try.prog 33 #[pv q, rv (ofL p q)] w' fun e w2 => e = .returned (.tuple #[pv p, .int .i64 0]) ∧ Sep w2 G) := Lib.hid fun h1 h2 G w' hs => by
    obtain ⟨g1, g2⟩ := add_of hp3 hq3 h1 h2
    have hf := of_fine hp3 hq3 h1 h2
    have := padd_calls hq3 (ofL_length hp3 hq3) (fun x hx => by have := hf x hx; omega) hs
    rw [if_pos g1] at this
    unfold addP at this
    rw [if_pos g1, g2] at this
    exact this
  have HOF2 : Hid (OnP q → Good q r → ∀ (G : List HP) (w' : World), Sep w' G → Calls Try.prog 21 #[pv (addL q r), pv q] w' fun e w2 => e = .returned (rv r) ∧ Sep w2 G) := Lib.hid fun h1 h2 G w' hs => by
    have := pof_calls (addL_length hq3 hr3) hq3 ((good_iff hq3 hr3).1 h2).2.2 h1 hs
    rw [of_add hq3 hr3 h2] at this
    exact this
  have HFINE := Lib.hid fun (h1 : OnP p) (h2 : OnP q) => of_fine hp3 hq3 h1 h2
  have HEQ : Hid (OnP p → OnP q → Good q r → (addL q r = p ↔ r = ofL p q)) := Lib.hid fun h1 h2 h3 => by
    constructor
    · intro h
      rw [← h, of_add hq3 hr3 h3]
    · intro h
      rw [h]
      exact (add_of hp3 hq3 h1 h2).2
  obtain ⟨n0, n1, n2, hn⟩ := list_three (ofL_length hp3 hq3)
  obtain ⟨m0, m1, m2, hm⟩ := list_three (addL_length hq3 hr3)
  rw [hn] at HOF HAD2 HFINE HEQ
  rw [hm] at HOF2 HEQ
  have hAP : ∀ h : Good q r, addP q r = [m0, m1, m2] := fun h => by unfold addP; rw [if_pos h, hm]
  have HAP := Lib.hid hAP
  have hAN : ∀ h : ¬ Good q r, addP q r = [0, 0, 0] := fun h => by unfold addP; rw [if_neg h]
  have HAN := Lib.hid hAN
  clear hn hm hAP hAN
  obtain ⟨x0, x1, x2, rfl⟩ := list_three hp3
  obtain ⟨y0, y1, y2, rfl⟩ := list_three hq3
  obtain ⟨u0, u1, u2, rfl⟩ := list_three hr3
  clear hp3 hq3 hr3 hr64 ON
  have H := Sep.start w
  generalize hB : HP.old w.heap.size w = O at H
  have HB := Lib.hid hB; clear hB
  have H1 := H.alloc #[.int .i64 x0, .int .i64 x1, .int .i64 x2] 23
  have H2 := H1.alloc #[.int .i64 y0, .int .i64 y1, .int .i64 y2] 23
  have H3 := H2.alloc #[.int .u64 (u0 : Int), .int .u64 (u1 : Int), .int .u64 (u2 : Int)] 29
  simp only [World.size_alloc] at H2 H3
  clear H1 H2 H
  show Calls Try.prog 13 #[.agg #[.int .i64 x0, .int .i64 x1, .int .i64 x2], .agg #[.int .i64 y0, .int .i64 y1, .int .i64 y2], .agg #[.int .u64 (u0 : Int), .int .u64 (u1 : Int), .int .u64 (u2 : Int)]] w _
  go_enter Try.func13, Try.ntmps13
  go_wp2_with fail
  generalize w.heap.size + 1 + 1 = q5 at *
  generalize w.heap.size + 1 = q4 at *
  generalize ((w.alloc _).alloc _).alloc _ = w3 at *
  refine (awake29 H3).mono ?_
  rintro e w4 ⟨rfl, H4⟩
  clear H3
  have c0 := H4.tail.tail.cell 0 rfl
  have c1 := H4.tail.tail.cell 1 rfl
  have c2 := H4.tail.tail.cell 2 rfl
  have PC : Calls Try.prog 19 #[.agg #[.int .i64 x0, .int .i64 x1, .int .i64 x2]] w4 _ := HONP.out _ _ H4
  go_wp2_with fail
  refine PC.mono ?_
  rintro _ w5 ⟨rfl, H5⟩
  clear PC H4 c0 c1 c2
  by_cases op : OnP [x0, x1, x2]
  rotate_left
  · rw [decide_eq_false op]
    clear op
    go_wp2_with fail
    refine (awake29 H5).mono ?_
    rintro e w6 ⟨rfl, H6⟩
    go_wp2_with fail
    go_ret
    subst HB
    exact ⟨rfl, H6.tail.tail.tail.below⟩
  rw [decide_eq_true op]
  have d0 := H5.tail.cell 0 rfl
  have d1 := H5.tail.cell 1 rfl
  have d2 := H5.tail.cell 2 rfl
  have QC : Calls Try.prog 19 #[.agg #[.int .i64 y0, .int .i64 y1, .int .i64 y2]] w5 _ := HONQ.out _ _ H5
  have HOP := Lib.hid op
  clear op
  go_wp2_with fail
  refine QC.mono ?_
  rintro _ w6 ⟨rfl, H6⟩
  clear QC H5 d0 d1 d2
  by_cases oq : OnP [y0, y1, y2]
  rotate_left
  · rw [decide_eq_false oq]
    clear oq
    go_wp2_with fail
    refine (awake29 H6).mono ?_
    rintro e w7 ⟨rfl, H7⟩
    go_wp2_with fail
    go_ret
    subst HB
    exact ⟨rfl, H7.tail.tail.tail.below⟩
  rw [decide_eq_true oq]
  have HOQ := Lib.hid oq
  clear oq
  have c0 := H6.tail.tail.cell 0 rfl
  have c1 := H6.tail.tail.cell 1 rfl
  have c2 := H6.tail.tail.cell 2 rfl
  have d0 := H6.tail.cell 0 rfl
  have d1 := H6.tail.cell 1 rfl
  have d2 := H6.tail.cell 2 rfl
  have OC : Calls Try.prog 21 #[.agg #[.int .i64 x0, .int .i64 x1, .int .i64 x2], .agg #[.int .i64 y0, .int .i64 y1, .int .i64 y2]] w6 (fun e w2 => e = .returned (.agg #[.int .u64 (n0 : Int), .int .u64 (n1 : Int), .int .u64 (n2 : Int)]) ∧ Sep w2 _) := HOF.out HOP.out HOQ.out _ _ H6
  go_wp2_with fail
  refine OC.mono ?_
  rintro _ w7 ⟨rfl, H7⟩
  clear OC H6 c0 c1 c2 d0 d1 d2
  have H8 := H7.alloc #[.int .u64 (n0 : Int), .int .u64 (n1 : Int), .int .u64 (n2 : Int)] 29
  have d0 := H8.tail.tail.cell 0 rfl
  have d1 := H8.tail.tail.cell 1 rfl
  have d2 := H8.tail.tail.cell 2 rfl
  have AC : Calls Try.prog 33 #[.agg #[.int .i64 y0, .int .i64 y1, .int .i64 y2], .agg #[.int .u64 (n0 : Int), .int .u64 (n1 : Int), .int .u64 (n2 : Int)]] _ (fun e w2 => e = .returned (.tuple #[.agg #[.int .i64 x0, .int .i64 x1, .int .i64 x2], .int .i64 0]) ∧ Sep w2 _) := HAD2.out HOP.out HOQ.out _ _ H8
  go_wp2_with fail
  generalize w7.alloc _ = w8 at *
  generalize w7.heap.size = q7 at *
  refine AC.mono ?_
  rintro _ w9 ⟨rfl, H9⟩
  clear AC H8 H7 d0 d1 d2
  have H10 := H9.alloc #[.int .i64 x0, .int .i64 x1, .int .i64 x2] 23
  have a0 := H10.cell 0 rfl
  have a1 := H10.cell 1 rfl
  have a2 := H10.cell 2 rfl
  have b0 := H10.tail.cell 0 rfl
  have b1 := H10.tail.cell 1 rfl
  have b2 := H10.tail.cell 2 rfl
  have e0 := H10.tail.tail.cell 0 rfl
  have e1 := H10.tail.tail.cell 1 rfl
  have e2 := H10.tail.tail.cell 2 rfl
  have d0 := H10.tail.tail.tail.cell 0 rfl
  have d1 := H10.tail.tail.tail.cell 1 rfl
  have d2 := H10.tail.tail.tail.cell 2 rfl
  have c0 := H10.tail.tail.tail.tail.cell 0 rfl
  have c1 := H10.tail.tail.tail.tail.cell 1 rfl
  have c2 := H10.tail.tail.tail.tail.cell 2 rfl
  have eqp := fun w : World => eq_pnt x0 x1 x2 x0 x1 x2 w
  rw [decide_eq_true ⟨rfl, rfl, rfl⟩] at eqp
  have eqg := eqg_arr
  have eqh := eqg_pnt
  have hf0 : ¬ (4194304 : Int) < (n0 : Int) := by have := HFINE.out HOP.out HOQ.out n0 (by simp); omega
  have hf1 : ¬ (4194304 : Int) < (n1 : Int) := by have := HFINE.out HOP.out HOQ.out n1 (by simp); omega
  have hf2 : ¬ (4194304 : Int) < (n2 : Int) := by have := HFINE.out HOP.out HOQ.out n2 (by simp); omega
  by_cases hg : Good [y0, y1, y2] [u0, u1, u2]
  · have AC0 := HADD.out _ _ H10
    rw [HAP.out hg, if_pos hg] at AC0
    have AC : Calls Try.prog 33 #[.agg #[.int .i64 y0, .int .i64 y1, .int .i64 y2], .agg #[.int .u64 (u0 : Int), .int .u64 (u1 : Int), .int .u64 (u2 : Int)]] _ (fun e w2 => e = .returned (.tuple #[.agg #[.int .i64 m0, .int .i64 m1, .int .i64 m2], .int .i64 0]) ∧ Sep w2 _) := AC0
    clear AC0
    go_wp2_with fail
    generalize w9.alloc _ = w10 at *
    generalize w9.heap.size = q8 at *
    refine AC.mono ?_
    rintro _ w11 ⟨rfl, H11⟩
    clear AC H10 H9 a0 a1 a2 b0 b1 b2 c0 c1 c2 d0 d1 d2 e0 e1 e2
    have H12 := H11.alloc #[.int .i64 m0, .int .i64 m1, .int .i64 m2] 23
    have s0 := H12.cell 0 rfl
    have s1 := H12.cell 1 rfl
    have s2 := H12.cell 2 rfl
    have b0 := H12.tail.tail.cell 0 rfl
    have b1 := H12.tail.tail.cell 1 rfl
    have b2 := H12.tail.tail.cell 2 rfl
    have e0 := H12.tail.tail.tail.cell 0 rfl
    have e1 := H12.tail.tail.tail.cell 1 rfl
    have e2 := H12.tail.tail.tail.cell 2 rfl
    have d0 := H12.tail.tail.tail.tail.cell 0 rfl
    have d1 := H12.tail.tail.tail.tail.cell 1 rfl
    have d2 := H12.tail.tail.tail.tail.cell 2 rfl
    have c0 := H12.tail.tail.tail.tail.tail.cell 0 rfl
    have c1 := H12.tail.tail.tail.tail.tail.cell 1 rfl
    have c2 := H12.tail.tail.tail.tail.tail.cell 2 rfl
    obtain ⟨B, hBd⟩ : ∃ B, B = decide (m0 = x0 ∧ m1 = x1 ∧ m2 = x2) := ⟨_, rfl⟩
    have eq1 := fun w : World => eq_pnt m0 m1 m2 x0 x1 x2 w
    rw [← hBd] at eq1
    have hBe : decide ((u0 : Int) = (n0 : Int) ∧ (u1 : Int) = (n1 : Int) ∧ (u2 : Int) = (n2 : Int)) = B := by
      rw [hBd]
      have h := HEQ.out HOP.out HOQ.out hg
      simp only [List.cons.injEq, and_true] at h
      rw [decide_eq_decide]
      constructor
      · rintro ⟨h1, h2, h3⟩; exact h.2 ⟨by omega, by omega, by omega⟩
      · intro hh
        obtain ⟨h1, h2, h3⟩ := h.1 hh
        exact ⟨by omega, by omega, by omega⟩
    have eq2 := fun w : World => eq_arr (u0 : Int) (u1 : Int) (u2 : Int) (n0 : Int) (n1 : Int) (n2 : Int) w
    rw [hBe] at eq2
    have eq3 := fun w : World => eq_arr (u0 : Int) (u1 : Int) (u2 : Int) (u0 : Int) (u1 : Int) (u2 : Int) w
    rw [decide_eq_true ⟨rfl, rfl, rfl⟩] at eq3
    have OC : Calls Try.prog 21 #[.agg #[.int .i64 m0, .int .i64 m1, .int .i64 m2], .agg #[.int .i64 y0, .int .i64 y1, .int .i64 y2]] _ (fun e w2 => e = .returned (.agg #[.int .u64 (u0 : Int), .int .u64 (u1 : Int), .int .u64 (u2 : Int)]) ∧ Sep w2 _) := HOF2.out HOQ.out hg _ _ H12.drew
    clear hBd hBe hg
    go_wp2_with fail
    generalize w11.alloc _ = w12 at *
    generalize w11.heap.size = q10 at *
    go_region_held3 (fun w' => w'.cell? ⟨q10, 0, none⟩ = some (.int .i64 m0) ∧ w'.cell? ⟨q10, 1, none⟩ = some (.int .i64 m1) ∧ w'.cell? ⟨q10, 2, none⟩ = some (.int .i64 m2) ∧ w'.cell? ⟨q7, 0, none⟩ = some (.int .u64 (n0 : Int)) ∧ w'.cell? ⟨q7, 1, none⟩ = some (.int .u64 (n1 : Int)) ∧ w'.cell? ⟨q7, 2, none⟩ = some (.int .u64 (n2 : Int)) ∧ w'.cell? ⟨q5, 0, none⟩ = some (.int .u64 (u0 : Int)) ∧ w'.cell? ⟨q5, 1, none⟩ = some (.int .u64 (u1 : Int)) ∧ w'.cell? ⟨q5, 2, none⟩ = some (.int .u64 (u2 : Int)) ∧ w'.cell? ⟨q4, 0, none⟩ = some (.int .i64 y0) ∧ w'.cell? ⟨q4, 1, none⟩ = some (.int .i64 y1) ∧ w'.cell? ⟨q4, 2, none⟩ = some (.int .i64 y2) ∧ w'.cell? ⟨w.heap.size, 0, none⟩ = some (.int .i64 x0) ∧ w'.cell? ⟨w.heap.size, 1, none⟩ = some (.int .i64 x1) ∧ w'.cell? ⟨w.heap.size, 2, none⟩ = some (.int .i64 x2)) (first | exact ⟨s0, s1, s2, b0, b1, b2, e0, e1, e2, d0, d1, d2, c0, c1, c2⟩ | exact ⟨H13.cell 0 rfl, H13.cell 1 rfl, H13.cell 2 rfl, H13.tail.tail.cell 0 rfl, H13.tail.tail.cell 1 rfl, H13.tail.tail.cell 2 rfl, H13.tail.tail.tail.cell 0 rfl, H13.tail.tail.tail.cell 1 rfl, H13.tail.tail.tail.cell 2 rfl, H13.tail.tail.tail.tail.cell 0 rfl, H13.tail.tail.tail.tail.cell 1 rfl, H13.tail.tail.tail.tail.cell 2 rfl, H13.tail.tail.tail.tail.tail.cell 0 rfl, H13.tail.tail.tail.tail.tail.cell 1 rfl, H13.tail.tail.tail.tail.tail.cell 2 rfl⟩) (first | (go_at_call 21; refine OC.mono ?_; rintro _ w13 ⟨rfl, H13⟩))
    go_wp2_with fail
    go_ret
    subst HB
    exact ⟨by simp, H13.tail.tail.tail.tail.tail.tail.below⟩
  · have AC0 := HADD.out _ _ H10
    rw [HAN.out hg, if_neg hg] at AC0
    have AC : Calls Try.prog 33 #[.agg #[.int .i64 y0, .int .i64 y1, .int .i64 y2], .agg #[.int .u64 (u0 : Int), .int .u64 (u1 : Int), .int .u64 (u2 : Int)]] _ (fun e w2 => e = .returned (.tuple #[.agg #[.int .i64 0, .int .i64 0, .int .i64 0], .int .i64 2]) ∧ Sep w2 _) := AC0
    clear AC0
    clear hg
    go_wp2_with fail
    generalize w9.alloc _ = w10 at *
    generalize w9.heap.size = q8 at *
    refine AC.mono ?_
    rintro _ w11 ⟨rfl, H11⟩
    clear AC H10 H9 a0 a1 a2 b0 b1 b2 c0 c1 c2 d0 d1 d2 e0 e1 e2
    have H12 := H11.alloc #[.int .i64 0, .int .i64 0, .int .i64 0] 23
    go_wp2_with fail
    generalize w11.alloc _ = w12 at *
    generalize w11.heap.size = q10 at *
    (refine wp_region_quiet_lit (by kernel_rfl) (by kernel_rfl) ?_; (repeat (first | go_big_quiet_skip | (go_big_quiet_want; go_big_quiet_op; (try go_bits); first | go_big_quiet_on | go_big_quiet_call (fail)))); refine wpQuiet_nil ?_; intro _ hw'; obtain ⟨nq, hw''⟩ := hw'; subst hw'')
    have H13 := H12.drewN nq
    go_wp2_with fail
    go_ret
    subst HB
    exact ⟨by simp, H13.tail.tail.tail.tail.tail.tail.below⟩

end Go.Proofs.Ytbhpcpcpccmacaa
