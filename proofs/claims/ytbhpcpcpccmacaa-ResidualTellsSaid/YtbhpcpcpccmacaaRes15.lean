/- Law 29: same, awake. -/
import Derived.Test.YtbhpcpcpccmacaaRes14
namespace Go.Proofs.Ytbhpcpcpccmacaa
open Go.RowKit Go.Shelf

theorem eq_arr (a b c d e f : Int) (w : World) : (Op.equalIn 10000 29 (.agg #[.int .u64 a, .int .u64 b, .int .u64 c]) (.agg #[.int .u64 d, .int .u64 e, .int .u64 f])).run Try.prog w = .ok (decide (a = d ∧ b = e ∧ c = f)) w := by
  have u3 := Try.underlying25
  have a3 := Try.isAgg25
  have z3 := Try.sizeOf25
  rw [show (10000 : Nat) = 9999 + 1 from rfl, Op.equalIn]
  simp only [Sem.run_bind, run_underlying Try.underlying29, Result.andThen_ok]
  simp only [Std.Legacy.Range.forIn_eq_forIn_range', Std.Legacy.Range.size, Nat.sub_zero, Nat.add_sub_cancel, Nat.div_one, List.range'_succ, List.range'_zero, List.forIn_cons, List.forIn_nil]
  go_simp
  by_cases h1 : a = d <;> by_cases h2 : b = e <;> by_cases h3 : c = f <;> simp [h1, h2, h3]
theorem eq_pnt (a b c d e f : Int) (w : World) : (Op.equalIn 10000 23 (.agg #[.int .i64 a, .int .i64 b, .int .i64 c]) (.agg #[.int .i64 d, .int .i64 e, .int .i64 f])).run Try.prog w = .ok (decide (a = d ∧ b = e ∧ c = f)) w := by
  have u3 := Try.underlying3
  have a3 := Try.isAgg3
  have z3 := Try.sizeOf3
  rw [show (10000 : Nat) = 9999 + 1 from rfl, Op.equalIn]
  simp only [Sem.run_bind, run_underlying Try.underlying23, Result.andThen_ok]
  simp only [Std.Legacy.Range.forIn_eq_forIn_range', Std.Legacy.Range.size, Nat.sub_zero, Nat.add_sub_cancel, Nat.div_one, List.range'_succ, List.range'_zero, List.forIn_cons, List.forIn_nil]
  go_simp
  by_cases h1 : a = d <;> by_cases h2 : b = e <;> by_cases h3 : c = f <;> simp [h1, h2, h3]
theorem eqg_arr : Try.prog.eqGuardType Try.prog.depth 29 = false := by kernel_rfl
theorem eqg_pnt : Try.prog.eqGuardType Try.prog.depth 23 = false := by kernel_rfl

set_option maxRecDepth 100000 in
set_option maxHeartbeats 4000000 in
theorem same29_calls {va vb : Value} {n : Nat} {xs : List Nat} {w : World} (hn : n ≤ 1000000) (ha : RdS w va n 3 (xs.map uv)) (hb : RdS w vb n 3 (xs.map uv)) :
    Calls Try.prog 40 #[va, vb] w fun e w' => e = .returned (.bool true) ∧ ∃ k, w' = w.drewN k := by
  have hl : xs.length = n * 3 := by have := ha.1; rw [List.length_map] at this; exact this
  have HL := Lib.hid hl
  clear hl
  obtain ⟨a1, c1, rfl⟩ := ha.form
  obtain ⟨a2, c2, rfl⟩ := hb.form
  have hbe : ((n : Int) != (n : Int)) = false := by simp
  go_enter Try.func40, Try.ntmps40
  go_wp2_with fail
  go_loopg [13] n (fun gk i wr => ∃ k m : Nat, Hid (k ≤ n ∧ gk = n - k) ∧ i = .int .i64 (k : Int) ∧ wr = w.drewN m)
  case atStart => exact ⟨0, 0, Lib.hid ⟨by omega, rfl⟩, rfl, rfl⟩
  case round =>
    obtain ⟨t, m, hq, rfl, rfl⟩ := hrel
    obtain ⟨q1, q2⟩ := hq.out
    clear hq
    by_cases ht : t < n
    · obtain ⟨g1, o1, d1, he⟩ := ha.open (by omega)
      simp only [Value.slice.injEq, true_and] at he
      obtain ⟨rfl, rfl⟩ := he
      obtain ⟨g2, o2, d2, he⟩ := hb.open (by omega)
      simp only [Value.slice.injEq, true_and] at he
      obtain ⟨rfl, rfl⟩ := he
      obtain ⟨a, b, c, h0, h1, h2, -, -, -, -⟩ := three_at HL.out ht
      have k0 := ha.three (j := 0) h0
      have k1 := ha.three (j := 1) h1
      have k2 := ha.three (j := 2) h2
      have l0 := hb.three (j := 0) h0
      have l1 := hb.three (j := 1) h1
      have l2 := hb.three (j := 2) h2
      rw [Nat.add_zero] at k0 l0
      clear h0 h1 h2
      have hti : (t : Int) < (n : Int) := by omega
      go_wp2_with fail
      have kk0 : (w.drewN m).cell? ⟨g1, o1 + t * 3, none⟩ = _ := k0
      have kk1 : (w.drewN m).cell? ⟨g1, o1 + t * 3 + 1, none⟩ = _ := k1
      have kk2 : (w.drewN m).cell? ⟨g1, o1 + t * 3 + 2, none⟩ = _ := k2
      have ll0 : (w.drewN m).cell? ⟨g2, o2 + t * 3, none⟩ = _ := l0
      have ll1 : (w.drewN m).cell? ⟨g2, o2 + t * 3 + 1, none⟩ = _ := l1
      have ll2 : (w.drewN m).cell? ⟨g2, o2 + t * 3 + 2, none⟩ = _ := l2
      have eqa := fun w : World => eq_arr (a : Int) (b : Int) (c : Int) (a : Int) (b : Int) (c : Int) w
      rw [decide_eq_true ⟨rfl, rfl, rfl⟩] at eqa
      have eqg := eqg_arr
      generalize hW : w.drewN m = W at *
      (refine wp_region_still_tail 8 (by kernel_rfl) (by kernel_rfl) ?_; simp only [List.take_succ_cons, List.take_zero, List.drop_succ_cons, List.drop_zero]; (repeat (refine wpStill_step (fun K hK => ?_); go_simp; (try go_bits); refine hK _ ?_; clear hK K)); try refine wpStill_nil ?_)
      change wpList _ _ _ _ _ (World.drew W)
      go_wp2_with fail
      subst hW
      go_roundg (n - (t + 1))
      case rel => exact ⟨t + 1, m + 1, Lib.hid ⟨by omega, rfl⟩, by go_num, World.drewN_drewN w m 1⟩
      case measure => omega
    · obtain rfl : t = n := by omega
      have hti : ¬ (t : Int) < (t : Int) := by omega
      go_wp2_with fail
      go_ret
      exact ⟨rfl, m, rfl⟩

theorem res_awake : resB [4, 1, 0] = [0, 42, 128] := by
  have hp : rplainB [4, 1, 0] = [0, 42, 128] := by decide +kernel
  unfold resB
  rw [hp, if_neg]
  intro hlt
  have h1 := rcls_pos [4, 1, 0]
  unfold rclsB clsB at hlt
  have hr : (rowR [4, 1, 0]).length = 2 := by decide +kernel
  have hs : 3 ≤ sizeN (rcls [4, 1, 0]).length := by
    have hm := rcls_le [4, 1, 0]
    have h2 : (rcls [4, 1, 0]).length ≤ 3 := hm
    rcases (by omega : (rcls [4, 1, 0]).length = 1 ∨ (rcls [4, 1, 0]).length = 2 ∨ (rcls [4, 1, 0]).length = 3) with h | h | h <;> rw [h] <;> decide +kernel
  rw [List.length_cons, pk_length, List.length_append, List.length_append, longN_length, allBits_length, hr] at hlt
  simp only [List.length_cons, List.length_nil] at hlt
  omega
theorem cost_awake : costN [4, 1, 0] = 9 := by decide +kernel
theorem of_awake : rv (ofL [5, -1, 0] [3, 0, 0]) = .agg #[.int .u64 4, .int .u64 1, .int .u64 0] := rfl
theorem good_awake : Good [3, 0, 0] [4, 1, 0] := by decide +kernel
theorem add_awake : pv (addP [3, 0, 0] [4, 1, 0]) = .agg #[.int .i64 5, .int .i64 (-1), .int .i64 0] := by
  unfold addP
  rw [if_pos good_awake]
  rfl

set_option maxRecDepth 100000 in
set_option maxHeartbeats 8000000 in
theorem awake29 {F : List HP} {w : World} (H : Sep w F) :
    Calls Try.prog 18 #[] w fun e w' => e = .returned (.bool true) ∧ Sep w' F := by
  have OC := pof_calls (p := [5, -1, 0]) (q := [3, 0, 0]) rfl rfl (by decide) (by decide) H
  rw [of_awake] at OC
  have OC : Calls Try.prog 21 #[.agg #[.int .i64 5, .int .i64 (-1), .int .i64 0], .agg #[.int .i64 3, .int .i64 0, .int .i64 0]] w _ := OC
  go_enter Try.func18, Try.ntmps18
  go_wp2_with fail
  refine OC.mono ?_
  rintro _ w1 ⟨rfl, H1⟩
  clear OC H
  have H2 := H1.alloc #[.int .u64 4, .int .u64 1, .int .u64 0] 29
  have AC := padd_calls (q := [3, 0, 0]) (r := [4, 1, 0]) rfl rfl (by simp) H2
  rw [add_awake, if_pos good_awake] at AC
  have AC : Calls Try.prog 33 #[.agg #[.int .i64 3, .int .i64 0, .int .i64 0], .agg #[.int .u64 4, .int .u64 1, .int .u64 0]] _ _ := AC
  go_wp2_with fail
  generalize w1.alloc _ = w2 at *
  generalize w1.heap.size = q1 at *
  refine AC.mono ?_
  rintro _ w3 ⟨rfl, H3⟩
  clear AC H2
  have H4 := H3.alloc #[.int .i64 5, .int .i64 (-1), .int .i64 0] 23
  have c0 := H4.tail.cell 0 rfl
  have c1 := H4.tail.cell 1 rfl
  have c2 := H4.tail.cell 2 rfl
  have hsz : (w3.alloc (.cells #[.int .i64 5, .int .i64 (-1), .int .i64 0] 23)).heap.size = w3.heap.size + 1 := World.size_alloc _ _
  have H5 := H4.alloc #[.int .u64 4, .int .u64 1, .int .u64 0] 29
  rw [hsz] at H5
  have EC := rencode_calls (v := .slice (some ⟨w3.heap.size + 1, 0, none⟩) 1 1) (n := 1) (xs := [4, 1, 0]) (by simp) (by exact fun w' h => rd_three h) H5
  clear H4 hsz
  go_wp2_with fail
  generalize (w3.alloc _).alloc _ = w5 at *
  generalize w3.heap.size + 1 = q3 at *
  generalize w3.heap.size = q2 at *
  refine EC.mono ?_
  rintro _ w6 ⟨_, rfl, ⟨hf, -, -⟩ | ⟨-, ea, ec, rfl, H6⟩⟩
  · exact absurd (rfit_ok (by decide) (by decide)) hf
  rw [res_awake] at H6 ⊢
  have hl3 : ([0, 42, 128] : List Nat).length = 3 := rfl
  rw [hl3] at H6 ⊢
  obtain ⟨g, cp, _, hsv, hcp, -⟩ := H6.row_open (by decide)
  simp only [Value.slice.injEq, true_and] at hsv
  obtain ⟨rfl, rfl⟩ := hsv
  clear EC H5 c0 c1 c2
  have DC := rdecode_calls (a := some ⟨g, 0, none⟩) (cap := ec) (n := 1) (b := [0, 42, 128]) (by decide) hcp (by decide) (by decide) (by exact Reads.row) H6
  have DC : Calls Try.prog 23 #[.slice (some ⟨g, 0, none⟩) 3 ec, .int .i64 1] w6 _ := DC
  go_wp2_with fail
  refine DC.mono ?_
  rintro _ w7 ⟨_, rfl, ⟨out, x, y, hfo, hol, hro, huq, rfl, H7⟩ | ⟨hno, -, -⟩⟩
  rotate_left
  · exact absurd res_awake (hno [4, 1, 0] (by decide) rfl)
  obtain rfl := huq [4, 1, 0] (by decide) rfl res_awake
  clear DC H6 hfo hol hro huq
  obtain ⟨g7, cp7, _, hsv, hcp7, -⟩ := H7.row_open (by decide)
  simp only [Value.slice.injEq, true_and] at hsv
  obtain ⟨rfl, rfl⟩ := hsv
  have a0 := H7.row_celln 0 (show ([4, 1, 0].map uv)[0]? = some (.int .u64 4) from rfl)
  have a1 := H7.row_celln 1 (show ([4, 1, 0].map uv)[1]? = some (.int .u64 1) from rfl)
  have a2 := H7.row_celln 2 (show ([4, 1, 0].map uv)[2]? = some (.int .u64 0) from rfl)
  have b0 := H7.tail.row_cell 0 (show (([0, 42, 128] : List Nat).map bv)[0]? = some (.int .u8 0) from rfl)
  have b1 := H7.tail.row_cell 1 (show (([0, 42, 128] : List Nat).map bv)[1]? = some (.int .u8 42) from rfl)
  have b2 := H7.tail.row_cell 2 (show (([0, 42, 128] : List Nat).map bv)[2]? = some (.int .u8 128) from rfl)
  have p0 := H7.tail.tail.tail.cell 0 rfl
  have p1 := H7.tail.tail.tail.cell 1 rfl
  have p2 := H7.tail.tail.tail.cell 2 rfl
  have r0 := H7.tail.tail.tail.tail.cell 0 rfl
  have r1 := H7.tail.tail.tail.tail.cell 1 rfl
  have r2 := H7.tail.tail.tail.tail.cell 2 rfl
  have CC := cost_calls (v := .slice (some ⟨g7, 0, none⟩) 1 y) (n := 1) (xs := [4, 1, 0]) (by decide) (by exact Reads.row) H7.drew
  rw [cost_awake] at CC
  have eqa := fun w : World => eq_arr 4 1 0 4 1 0 w
  rw [decide_eq_true ⟨rfl, rfl, rfl⟩] at eqa
  have eqb := fun w : World => eq_pnt 5 (-1) 0 5 (-1) 0 w
  rw [decide_eq_true ⟨rfl, rfl, rfl⟩] at eqb
  have eqg := eqg_arr
  have eqh := eqg_pnt
  go_wp2_with fail
  go_region_held3 (fun w' => w'.cell? ⟨g7, 0, none⟩ = some (.int .u64 4) ∧ w'.cell? ⟨g7, 1, none⟩ = some (.int .u64 1) ∧ w'.cell? ⟨g7, 2, none⟩ = some (.int .u64 0) ∧ w'.cell? ⟨g, 0, none⟩ = some (.int .u8 0) ∧ w'.cell? ⟨g, 1, none⟩ = some (.int .u8 42) ∧ w'.cell? ⟨g, 2, none⟩ = some (.int .u8 128) ∧ w'.cell? ⟨q2, 0, none⟩ = some (.int .i64 5) ∧ w'.cell? ⟨q2, 1, none⟩ = some (.int .i64 (-1)) ∧ w'.cell? ⟨q2, 2, none⟩ = some (.int .i64 0) ∧ w'.cell? ⟨q1, 0, none⟩ = some (.int .u64 4) ∧ w'.cell? ⟨q1, 1, none⟩ = some (.int .u64 1) ∧ w'.cell? ⟨q1, 2, none⟩ = some (.int .u64 0)) (first | exact ⟨a0, a1, a2, b0, b1, b2, p0, p1, p2, r0, r1, r2⟩ | exact ⟨H8.row_celln 0 rfl, H8.row_celln 1 rfl, H8.row_celln 2 rfl, H8.tail.row_cell 0 rfl, H8.tail.row_cell 1 rfl, H8.tail.row_cell 2 rfl, H8.tail.tail.tail.cell 0 rfl, H8.tail.tail.tail.cell 1 rfl, H8.tail.tail.tail.cell 2 rfl, H8.tail.tail.tail.tail.cell 0 rfl, H8.tail.tail.tail.tail.cell 1 rfl, H8.tail.tail.tail.tail.cell 2 rfl⟩) (first | (go_at_call 20; refine CC.mono ?_; rintro _ w8 ⟨rfl, H8⟩))
  go_wp2_with fail
  go_ret
  exact ⟨rfl, H8.tail.tail.tail.tail.tail⟩

end Go.Proofs.Ytbhpcpcpccmacaa
