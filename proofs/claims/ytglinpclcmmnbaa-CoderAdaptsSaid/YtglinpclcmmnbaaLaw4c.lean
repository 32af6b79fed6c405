/- Law 04: CoderBytes. -/
import Derived.Test.YtglinpclcmmnbaaCod12
import Derived.Test.YtglinpclcmmnbaaCod8
import Derived.Test.YtglinpclcmmnbaaLaw4a
namespace Go.Proofs.Ytglinpclcmmnbaa
open Go.RowKit Go.ChangeShapes Go.WideShapes Go.Deep Go.Shelf

theorem IsCode.len_le {K L R : Nat} {c : List Nat} (h : IsCode K L R c) : c.length ≤ K := by
  obtain ⟨n, hn, -, -, rfl⟩ := h
  rw [digs_length]; exact hn

set_option maxRecDepth 100000 in
set_option maxHeartbeats 8000000 in
theorem law_CoderBytes (v : Value) (its : List Stp) {w : World} (hits : StpOk w v its) :
    Calls Try.prog 11 #[v] w fun e w' => e = .returned (.bool true) ∧ Below w.heap.size w w' := by
  have hrd := hits.rd
  obtain ⟨va, vc, rfl⟩ := hits.1.form
  clear hits
  have H := Sep.start w
  generalize hB : HP.old w.heap.size w = O at H hrd
  have HB := Lib.hid hB; clear hB
  go_enter Try.func11, Try.ntmps11
  go_wp2_with fail
  refine (awake4 H).mono ?_
  rintro e w1 ⟨rfl, H1⟩
  clear H
  go_wp2_with fail
  refine (great_calls hrd H1).mono ?_
  rintro e w2 ⟨b, rfl, hg, H2⟩
  clear H1
  cases b with
  | true =>
    go_wp2_with fail
    go_ret
    subst HB
    exact ⟨rfl, H2.below⟩
  | false =>
    obtain ⟨hlen, hok⟩ := hg.out rfl
    have hok := fun p hp => (hok p hp).2
    clear hg
    obtain ⟨hrd, hel⟩ := hrd
    have HEL := Lib.hid hel
    have HOK := Lib.hid hok
    clear hel hok
    go_wp2_with fail
    refine (cnew_calls H2).mono ?_
    rintro _ w3 ⟨q, rfl, H3⟩
    clear H2
    go_wp2_with fail
    refine (first_calls H3).mono ?_
    rintro _ w4 ⟨_, rfl, fv, rfl, H4⟩
    obtain ⟨fa, fc, rfl⟩ := H4.row_form
    have H5 := H4.alloc #[.slice fa 4 fc, .int .i64 4294967296] 53
    have H6 : Sep (w4.alloc (.cells #[.slice fa 4 fc, .int .i64 4294967296] 53)) (EncI q firstI :: HP.pt w4.heap.size #[.slice fa (firstI.1 + 4) fc, .int .i64 (firstI.2.2 : Int)] 53 :: HP.row 3 1 (.slice fa (firstI.1 + 4) fc) (firstI.1 + 4) ((digs (firstI.1 + 4) firstI.2.1).map dv) :: [O]) := H5.rot3
    go_wp2_with fail
    clear H3 H4 H5
    generalize w4.heap.size = xb at *
    go_loopg [5] its.length (fun gk i wr => ∃ (t : Nat) (x : Nat × Nat × Nat) (a : Option Addr) (c : Nat), Hid (t ≤ its.length ∧ gk = its.length - t ∧ x = runI firstI (its.take t)) ∧ i = .int .i64 (t : Int) ∧ Sep wr (EncI q x :: HP.pt xb #[.slice a (x.1 + 4) c, .int .i64 (x.2.2 : Int)] 53 :: HP.row 3 1 (.slice a (x.1 + 4) c) (x.1 + 4) ((digs (x.1 + 4) x.2.1).map dv) :: [O]))
    case atStart => exact ⟨0, firstI, fa, fc, Lib.hid ⟨by omega, rfl, rfl⟩, rfl, H6⟩
    case round =>
      clear H6
      obtain ⟨t, x, ra, rc, hq, rfl, Hr⟩ := hrel
      obtain ⟨q1, q2, hx⟩ := hq.out
      clear hq
      obtain ⟨hI, hkk⟩ := runI_ok (x := firstI) (its := its.take t) firstI_iv (fun p hp => HOK.out p (List.mem_of_mem_take hp))
      have hk : (runI firstI (its.take t)).1 ≤ 1000 := by
        have : (its.take t).length ≤ t := by simp; omega
        have : firstI.1 = 0 := rfl
        omega
      clear hkk
      rw [← hx] at hI hk
      by_cases c : t < its.length
      · have HST : Hid (runI firstI (its.take (t + 1)) = stepI x its[t].2.1 its[t].2.2.toNat) := Lib.hid (by rw [runI_take c, hx])
        obtain ⟨hI2, hkk⟩ := runI_ok (x := firstI) (its := its.take (t + 1)) firstI_iv (fun p hp => HOK.out p (List.mem_of_mem_take hp))
        have hk2 : (runI firstI (its.take (t + 1))).1 ≤ 1000 := by
          have : (its.take (t + 1)).length ≤ t + 1 := by simp; omega
          have : firstI.1 = 0 := rfl
          omega
        rw [HST.out] at hI2 hk2
        clear hkk hx
        obtain ⟨g, o, cap', he⟩ := (hrd _ (Sep.drop_left (S := [_, _, _]) Hr)).open (by omega)
        simp only [Value.slice.injEq, true_and] at he
        obtain ⟨rfl, rfl⟩ := he
        obtain ⟨s0, s1⟩ := stp_get c
        have hr1 := HEL.out _ (List.getElem_mem c)
        have hR := HOK.out _ (List.getElem_mem c)
        have hti : (t : Int) < (its.length : Int) := by omega
        generalize its[t] = p at *
        obtain ⟨sv, cs, s⟩ := p
        obtain ⟨hv, hs1, hs2⟩ := hR
        simp only at s0 s1 hr1 hv hs1 hs2 HST hI2 hk2
        obtain ⟨s, rfl⟩ := Int.eq_ofNat_of_zero_le hs1
        rw [Int.toNat_natCast] at HST hI2 hk2
        obtain ⟨sa, sc, rfl⟩ := (hr1 _ (Sep.drop_left (S := [_, _, _]) Hr)).form
        have HC0 : Hid (∀ w', Sep w' [O] → w'.cell? ⟨g, o + t * 2, none⟩ = some (.slice sa cs.length sc)) := Lib.hid fun w' h => (hrd _ h).cell (t * 2) s0
        have HC1 : Hid (∀ w', Sep w' [O] → w'.cell? ⟨g, o + t * 2 + 1, none⟩ = some (.int .i64 (s : Int))) := Lib.hid fun w' h => (hrd _ h).cell (t * 2 + 1) s1
        clear s0 s1
        have k0 := HC0.out _ (Sep.drop_left (S := [_, _, _]) Hr)
        have k1 := HC1.out _ (Sep.drop_left (S := [_, _, _]) Hr)
        have hs : s < cs.length := by omega
        have HM := Lib.hid (made_calls hv (Reads.append hr1 [_, _, _]) Hr.drew)
        have HV := Lib.hid hv
        have HR1 := Lib.hid hr1
        have HI2 := Lib.hid (And.intro hI2 hk2)
        clear hv hr1 hI2 hk2
        go_wp2_with fail
        go_region_held3 (fun w' => w'.cell? ⟨g, o + t * 2, none⟩ = some (.slice sa cs.length sc) ∧ w'.cell? ⟨g, o + t * 2 + 1, none⟩ = some (.int .i64 (s : Int))) (first | exact ⟨k0, k1⟩ | exact ⟨HC0.out _ (Sep.drop_left (S := [_, _, _, _]) H5), HC1.out _ (Sep.drop_left (S := [_, _, _, _]) H5)⟩ | exact ⟨HC0.out _ (Sep.drop_left (S := [_, _, _, _]) H7), HC1.out _ (Sep.drop_left (S := [_, _, _, _]) H7)⟩) (first | (go_at_call 39; refine HM.out.mono ?_; rintro _ w5 ⟨_, rfl, b, rfl, H5⟩) | (go_at_call 38; refine (encode_ok hI hk HV.out hs H5.swap).mono ?_; rintro _ w7 ⟨rfl, H7⟩))
        have H8 := H7.swap.tail
        clear k0 k1 H7 H5 HM
        have k0 := HC0.out _ (Sep.drop_left (S := [_, _, _]) H8)
        have k1 := HC1.out _ (Sep.drop_left (S := [_, _, _]) H8)
        have d0 := H8.tail.cell 0 rfl
        have d1 := H8.tail.cell 1 rfl
        have RC := Lib.hid (rcome_calls (v := .slice ra (x.1 + 4) rc) (sv := .slice sa cs.length sc) hI hk HV.out hs (by exact Reads.cons (Reads.cons Reads.row)) (Reads.append HR1.out [_, _, _]) H8.drew)
        go_wp2_with fail
        (refine wp_region_still_tail 5 (by kernel_rfl) (by kernel_rfl) ?_; simp only [List.take_succ_cons, List.take_zero, List.drop_succ_cons, List.drop_zero]; (repeat (refine wpStill_step (fun K hK => ?_); go_simp; (try go_bits); refine hK _ ?_; clear hK K)); try refine wpStill_nil ?_)
        change wpList _ _ _ _ _ (World.drew w7)
        go_wp2_with fail
        refine RC.out.mono ?_
        rintro _ w9 ⟨_, rfl, u, rfl, H9⟩
        obtain ⟨ua, uc, rfl⟩ := H9.row_form
        have e0 := H9.tail.tail.cell 0 rfl
        have e1 := H9.tail.tail.cell 1 rfl
        have f0 := H9.tail.tail.froz 0
        have f1 := H9.tail.tail.froz 1
        have H10 := (H9.rot3.set 0 (.slice ua ((stepI x cs s).1 + 4) uc)).set 1 (.int .i64 ((stepI x cs s).2.2 : Int))
        clear k0 k1 d0 d1 RC HR1 HV H8 HC0 HC1 Hr
        go_wp2_with fail
        clear e0 e1 f0 f1 H9
        generalize (w9.setCell ⟨xb, 0, none⟩ (.slice ua ((stepI x cs s).1 + 4) uc)).setCell ⟨xb, 1, none⟩ (.int .i64 ((stepI x cs s).2.2 : Int)) = W at *
        have H11 := H10.rot3.rot4.tail
        generalize hy : stepI x cs s = y at *
        have HY := Lib.hid hy
        clear hy H10
        have c0 := H11.tail.cell 0 rfl
        have c1 := H11.tail.cell 1 rfl
        by_cases h8 : t % 8 = 0
        · have g1 : (t : Int) % 8 = 0 := by omega
          have g2 : (t : Int).tmod 8 = 0 := by rw [Int.tmod_eq_emod_of_nonneg (by omega)]; exact g1
          have FC := Lib.hid (finish_calls HI2.out.1 HI2.out.2 H11.drew)
          go_wp2_with fail
          go_region_held3 (fun w' => w'.cell? ⟨xb, 0, none⟩ = some (.slice ua (y.1 + 4) uc) ∧ w'.cell? ⟨xb, 1, none⟩ = some (.int .i64 (y.2.2 : Int))) (first | exact ⟨c0, c1⟩ | exact ⟨H12.tail.tail.cell 0 rfl, H12.tail.tail.cell 1 rfl⟩ | exact ⟨H13.tail.tail.tail.cell 0 rfl, H13.tail.tail.tail.cell 1 rfl⟩ | exact ⟨H14.tail.tail.tail.cell 0 rfl, H14.tail.tail.tail.cell 1 rfl⟩) (first | (go_at_call 42; refine FC.out.mono ?_; rintro _ w12 ⟨r12, rfl, cd1, hc1, H12⟩; obtain ⟨ra1, rc1, hr1⟩ := H12.row_form; subst hr1) | (go_at_call 43; refine (rbytes_calls (v := .slice ua (y.1 + 4) uc) HI2.out.1 HI2.out.2 (by exact Reads.cons (Reads.cons (Reads.cons Reads.row))) H12).mono ?_; rintro _ w13 ⟨r13, rfl, cd2, hc2, H13⟩; obtain ⟨ra2, rc2, hr2⟩ := H13.row_form; subst hr2; have hcc := hc1.uniq hc2; subst hcc; have hcn := Nat.le_trans hc1.len_le (Nat.add_le_add_right HI2.out.2 4)) | (go_at_call 41; refine (bsame_calls (xs := cd1) (ys := cd1) (by omega) H13.tail.rd H13.rd).mono ?_; rintro _ _ ⟨rfl, n, rfl⟩; have e1 : decide (cd1 = cd1) = true := decide_eq_true rfl; rw [e1]; have H14 := H13.drewN n))
          go_wp2_with fail
          go_roundg (its.length - (t + 1))
          case rel => exact ⟨t + 1, y, ua, uc, Lib.hid ⟨by omega, rfl, by rw [HST.out]⟩, by go_num, H14.tail.tail⟩
          case measure => omega
        · have g1 : ((t : Int) % 8 == 0) = false := by simp; omega
          have g2 : decide ((t : Int) % 8 = 0) = false := decide_eq_false (by omega)
          go_wp2_with fail
          (refine wp_region_quiet_lit (by kernel_rfl) (by kernel_rfl) ?_; (repeat (first | go_big_quiet_skip | (go_big_quiet_want; go_big_quiet_op; (try go_bits); first | go_big_quiet_on | go_big_quiet_call (fail)))); refine wpQuiet_nil ?_; intro _ hw'; obtain ⟨nq, hw''⟩ := hw'; subst hw'')
          go_wp2_with fail
          go_roundg (its.length - (t + 1))
          case rel => exact ⟨t + 1, y, ua, uc, Lib.hid ⟨by omega, rfl, by rw [HST.out]⟩, by go_num, H11.drewN nq⟩
          case measure => omega
      · have c0 := Hr.tail.cell 0 rfl
        have c1 := Hr.tail.cell 1 rfl
        have FC := Lib.hid (finish_calls hI hk Hr.drew)
        have hti : ¬ (t : Int) < (its.length : Int) := by omega
        clear hx
        go_wp2_with fail
        go_region_held3 (fun w' => w'.cell? ⟨xb, 0, none⟩ = some (.slice ra (x.1 + 4) rc) ∧ w'.cell? ⟨xb, 1, none⟩ = some (.int .i64 (x.2.2 : Int))) (first | exact ⟨c0, c1⟩ | exact ⟨H12.tail.tail.cell 0 rfl, H12.tail.tail.cell 1 rfl⟩ | exact ⟨H13.tail.tail.tail.cell 0 rfl, H13.tail.tail.tail.cell 1 rfl⟩ | exact ⟨H14.tail.tail.tail.cell 0 rfl, H14.tail.tail.tail.cell 1 rfl⟩) (first | (go_at_call 42; refine FC.out.mono ?_; rintro _ w12 ⟨r12, rfl, cd1, hc1, H12⟩; obtain ⟨ra1, rc1, hr1⟩ := H12.row_form; subst hr1) | (go_at_call 43; refine (rbytes_calls (v := .slice ra (x.1 + 4) rc) hI hk (by exact Reads.cons (Reads.cons (Reads.cons Reads.row))) H12).mono ?_; rintro _ w13 ⟨r13, rfl, cd2, hc2, H13⟩; obtain ⟨ra2, rc2, hr2⟩ := H13.row_form; subst hr2; have hcc := hc1.uniq hc2; subst hcc; have hcn := Nat.le_trans hc1.len_le (Nat.add_le_add_right hk 4)) | (go_at_call 41; refine (bsame_calls (xs := cd1) (ys := cd1) (by omega) H13.tail.rd H13.rd).mono ?_; rintro _ _ ⟨rfl, n, rfl⟩; have e1 : decide (cd1 = cd1) = true := decide_eq_true rfl; rw [e1]; have H14 := H13.drewN n))
        go_wp2_with fail
        go_ret
        subst HB
        exact ⟨rfl, H14.tail.tail.tail.tail.tail.below⟩

end Go.Proofs.Ytglinpclcmmnbaa
