/- Law 04: CoderReads. -/
import Derived.Test.YtglinpclcmmnbaaCod16
import Derived.Test.YtglinpclcmmnbaaCod8
import Derived.Test.YtglinpclcmmnbaaLaw4a
import Derived.Test.YtglinpclcmmnbaaLaw4c
namespace Go.Proofs.Ytglinpclcmmnbaa
open Go.RowKit Go.ChangeShapes Go.WideShapes Go.Deep Go.Shelf

theorem IsRow.bytes {w : World} {a : Option Addr} {len cap : Nat} {zs : List Int} (h : IsRow .u8 w a len cap zs) : ∃ b : List Nat, b.length = len ∧ (∀ d ∈ b, d < 256) ∧ RdS w (.slice a len cap) b.length 1 (b.map bv) := by
  have hr := h.rd
  have hw : ∀ x ∈ zs.take len, 0 ≤ x ∧ x ≤ 255 := fun x hx => wf_u8 (h.wf x hx)
  have hl := h.len
  refine ⟨(zs.take len).map Int.toNat, by rw [List.length_map, hl], fun d hd => ?_, ?_⟩
  · obtain ⟨x, hx, rfl⟩ := List.mem_map.1 hd
    have := hw x hx
    omega
  · rw [List.length_map, hl, List.map_map]
    have e : (zs.take len).map (bv ∘ Int.toNat) = (zs.take len).map (Value.int .u8) := List.map_congr_left fun x hx => by
      have := hw x hx
      show Value.int .u8 ((x.toNat : Nat) : Int) = _
      rw [Int.toNat_of_nonneg this.1]
    rw [e]
    exact hr
theorem in_some {cs : List Int} {b : List Nat} {x : Nat × Nat × Nat} (hI : IvI x) (hv : Vt cs) (hlt : ∀ d ∈ b, d < 256) (hin : InI x b) : ∃ s, s < cs.length ∧ InI (stepI x cs s) b := by
  obtain ⟨k, L, R⟩ := x
  have hIv : Iv k L R := hI
  have hin0 := hin
  obtain ⟨n1, n2⟩ := hin0
  simp only at n1 n2
  obtain ⟨f1, f2, f3⟩ := ask_find (h := valD (wideL b (k + 4)) - L) hv hIv.1 (show _ < R by omega)
  exact ⟨_, f1, find_in hlt hin f2 f3⟩
theorem first_in {b : List Nat} (hlt : ∀ d ∈ b, d < 256) : InI firstI b := by
  have h := valD_lt (wideL b 4) (wideL_lt 4 hlt)
  rw [wideL_length] at h
  have h4 : (256 : Nat) ^ 4 = 4294967296 := by decide
  have e : firstI = (0, 0, 4294967296) := rfl
  rw [e]
  unfold InI
  simp only
  rw [Nat.zero_add]
  omega

set_option maxRecDepth 100000 in
set_option maxHeartbeats 8000000 in
theorem law_CoderReads (ba : Option Addr) (blen bcap : Nat) (z : List Int) {w : World} (hz : IsRow .u8 w ba blen bcap z) (v : Value) (its : List Stp) (hits : StpOk w v its) :
    Calls Try.prog 14 #[.slice ba blen bcap, v] w fun e w' => e = .returned (.bool true) ∧ Below w.heap.size w w' := by
  have hrd := hits.rd
  obtain ⟨va, vc, rfl⟩ := hits.1.form
  obtain ⟨b, rfl, hlt, hrb0⟩ := hz.bytes
  have hrb : Reads [HP.old w.heap.size w] (.slice ba b.length bcap) b.length 1 (b.map bv) := Reads.old hrb0
  clear hits hz hrb0
  have H := Sep.start w
  generalize hB : HP.old w.heap.size w = O at H hrd hrb
  have HB := Lib.hid hB; clear hB
  have HLT := Lib.hid hlt
  clear hlt
  go_enter Try.func14, Try.ntmps14
  go_wp2_with fail
  refine (awake4 H).mono ?_
  rintro e w1 ⟨rfl, H1⟩
  clear H
  go_wp2_with fail
  refine (great_calls hrd H1).mono ?_
  rintro e w2 ⟨g, rfl, hg, H2⟩
  clear H1
  cases g with
  | true =>
    go_wp2_with fail
    go_ret
    subst HB
    exact ⟨rfl, H2.below⟩
  | false =>
    obtain ⟨hlen, hok⟩ := hg.out rfl
    have hok := fun p hp => (hok p hp).2
    clear hg
    obtain ⟨hrd, hel⟩ := hrd
    have HEL := Lib.hid hel
    have HOK := Lib.hid hok
    clear hel hok
    by_cases h40 : 40 < its.length
    · go_wp2_with fail
      go_ret
      subst HB
      exact ⟨rfl, H2.below⟩
    by_cases h60 : 60 < b.length
    · go_wp2_with fail
      go_ret
      subst HB
      exact ⟨rfl, H2.below⟩
    have ND := newdec_calls (by omega) HLT.out hrb H2
    go_wp2_with fail
    refine ND.mono ?_
    rintro _ w3 ⟨_, rfl, q, rfl, H3⟩
    clear H2 ND
    go_wp2_with fail
    refine (first_calls H3).mono ?_
    rintro _ w4 ⟨_, rfl, fv, rfl, H4⟩
    obtain ⟨fa, fc, rfl⟩ := H4.row_form
    have H5 := H4.alloc #[.slice fa 4 fc, .int .i64 4294967296] 53
    have H6 : Sep (w4.alloc (.cells #[.slice fa 4 fc, .int .i64 4294967296] 53)) (DecI q b firstI :: HP.pt w4.heap.size #[.slice fa (firstI.1 + 4) fc, .int .i64 (firstI.2.2 : Int)] 53 :: HP.row 3 1 (.slice fa (firstI.1 + 4) fc) (firstI.1 + 4) ((digs (firstI.1 + 4) firstI.2.1).map dv) :: [O]) := H5.rot3
    go_wp2_with fail
    clear H3 H4 H5
    generalize w4.heap.size = xb at *
    go_loopg [7] its.length (fun gk i wr => ∃ (t : Nat) (x : Nat × Nat × Nat) (a : Option Addr) (c : Nat), Hid (t ≤ its.length ∧ gk = its.length - t ∧ IvI x ∧ x.1 ≤ 2 * t ∧ InI x b) ∧ i = .int .i64 (t : Int) ∧ Sep wr (DecI q b x :: HP.pt xb #[.slice a (x.1 + 4) c, .int .i64 (x.2.2 : Int)] 53 :: HP.row 3 1 (.slice a (x.1 + 4) c) (x.1 + 4) ((digs (x.1 + 4) x.2.1).map dv) :: [O]))
    case atStart => exact ⟨0, firstI, fa, fc, Lib.hid ⟨by omega, rfl, firstI_iv, by decide, first_in HLT.out⟩, rfl, H6⟩
    case round =>
      clear H6
      obtain ⟨t, x, ra, rc, hq, rfl, Hr⟩ := hrel
      obtain ⟨q1, q2, hI, hk, hin⟩ := hq.out
      clear hq
      by_cases c : t < its.length
      · obtain ⟨g, o, cap', he⟩ := (hrd _ (Sep.drop_left (S := [_, _, _]) Hr)).open (by omega)
        simp only [Value.slice.injEq, true_and] at he
        obtain ⟨rfl, rfl⟩ := he
        obtain ⟨s0, s1⟩ := stp_get c
        have hr1 := HEL.out _ (List.getElem_mem c)
        have hR := HOK.out _ (List.getElem_mem c)
        have hti : (t : Int) < (its.length : Int) := by omega
        generalize its[t] = p at *
        obtain ⟨sv, cs, s⟩ := p
        obtain ⟨hv, -, -⟩ := hR
        simp only at s0 s1 hr1 hv
        obtain ⟨s, hs, hsI⟩ := in_some hI hv HLT.out hin
        obtain ⟨sa, sc, rfl⟩ := (hr1 _ (Sep.drop_left (S := [_, _, _]) Hr)).form
        have HC0 : Hid (∀ w', Sep w' [O] → w'.cell? ⟨g, o + t * 2, none⟩ = some (.slice sa cs.length sc)) := Lib.hid fun w' h => (hrd _ h).cell (t * 2) s0
        clear s0 s1
        have k0 := HC0.out _ (Sep.drop_left (S := [_, _, _]) Hr)
        have d0 := Hr.tail.cell 0 rfl
        have d1 := Hr.tail.cell 1 rfl
        have RD := Lib.hid (rdecode_calls (v := .slice ra (x.1 + 4) rc) (sv := .slice sa cs.length sc) (vb := .slice ba b.length bcap) hI (by omega) hv hs HLT.out hsI (by exact Reads.cons (Reads.cons Reads.row)) (Reads.append hr1 [_, _, _]) (Reads.append hrb [_, _, _]) Hr.drew)
        have HU := Lib.hid fun (s' : Nat) (h1 : s' < cs.length) (h2 : InI (stepI x cs s') b) => step_uniq hI hv hs h1 HLT.out hsI h2
        have HM := Lib.hid fun (w' : World) (A B C : HP) (h : Sep w' (A :: B :: C :: [O])) => made_calls hv hr1.cons.cons.cons h
        have HV := Lib.hid hv
        have HR1 := Lib.hid hr1
        have HSI := Lib.hid hsI
        have HIN := Lib.hid hin
        obtain ⟨hI2, hk2⟩ := stepI_ok (s := (s : Int)) hI ⟨hv, by omega, by omega⟩
        rw [Int.toNat_natCast] at hI2 hk2
        have HI2 := Lib.hid (And.intro hI2 hk2)
        clear hv hr1 hin hsI hI2 hk2
        go_wp2_with fail
        go_region_with (first | (go_at_call 46; refine RD.out.mono ?_; rintro _ w5 ⟨rfl, H5⟩))
        all_goals (
          have k0 := HC0.out _ (Sep.drop_left (S := [_, _, _]) H5)
          clear RD Hr d0 d1
          have C1 := HM.out _ _ _ _ H5
          go_wp2_with fail
          refine C1.mono ?_
          rintro _ w6 ⟨_, rfl, bt, rfl, H6⟩
          clear C1
          have C2 := decode_calls hI (by omega) HV.out HLT.out HIN.out H6.swap
          go_wp2_with fail
          refine C2.mono ?_
          rintro _ w7 ⟨s', rfl, hs', hin', H7⟩
          have hss := HU.out s' hs' hin'
          subst hss
          clear C2 H6 H5 hin'
          have H8 := H7.swap.tail
          have k0 := HC0.out _ (Sep.drop_left (S := [_, _, _]) H8)
          have d0 := H8.tail.cell 0 rfl
          have d1 := H8.tail.cell 1 rfl
          have RC := Lib.hid (rcome_calls (v := .slice ra (x.1 + 4) rc) (sv := .slice sa cs.length sc) hI (by omega) HV.out hs (by exact Reads.cons (Reads.cons Reads.row)) (Reads.append HR1.out [_, _, _]) H8.drew)
          have hsn : ¬ (s : Int) < 0 := by omega
          go_wp2_with fail
          (refine wp_region_still_tail 8 (by kernel_rfl) (by kernel_rfl) ?_; simp only [List.take_succ_cons, List.take_zero, List.drop_succ_cons, List.drop_zero]; (repeat (refine wpStill_step (fun K hK => ?_); go_simp; (try go_bits); refine hK _ ?_; clear hK K)); try refine wpStill_nil ?_)
          change wpList _ _ _ _ _ (World.drew w7)
          go_wp2_with fail
          refine RC.out.mono ?_
          rintro _ w9 ⟨_, rfl, u, rfl, H9⟩
          obtain ⟨ua, uc, rfl⟩ := H9.row_form
          have e0 := H9.tail.tail.cell 0 rfl
          have e1 := H9.tail.tail.cell 1 rfl
          have f0 := H9.tail.tail.froz 0
          have f1 := H9.tail.tail.froz 1
          have H10 := (H9.rot3.set 0 (.slice ua ((stepI x cs s).1 + 4) uc)).set 1 (.int .i64 ((stepI x cs s).2.2 : Int))
          clear k0 d0 d1 RC H8
          go_wp2_with fail
          clear e0 e1 f0 f1 H9
          have H11 := H10.rot3.rot4.tail
          clear H10
          go_roundg (its.length - (t + 1))
          case rel => exact ⟨t + 1, stepI x cs s, ua, uc, Lib.hid ⟨by omega, rfl, HI2.out.1, by have := HI2.out.2; omega, HSI.out⟩, by go_num, H11⟩
          case measure => omega)
      · have c0 := Hr.tail.cell 0 rfl
        have c1 := Hr.tail.cell 1 rfl
        have hti : ¬ (t : Int) < (its.length : Int) := by omega
        have DC := Lib.hid (done_calls hI (by omega) HLT.out Hr.drew)
        clear hin
        go_wp2_with fail
        go_region_held3 (fun w' => w'.cell? ⟨xb, 0, none⟩ = some (.slice ra (x.1 + 4) rc) ∧ w'.cell? ⟨xb, 1, none⟩ = some (.int .i64 (x.2.2 : Int))) (first | exact ⟨c0, c1⟩ | exact ⟨H12.tail.cell 0 rfl, H12.tail.cell 1 rfl⟩ | exact ⟨H13.tail.tail.cell 0 rfl, H13.tail.tail.cell 1 rfl⟩ | exact ⟨H14.tail.tail.cell 0 rfl, H14.tail.tail.cell 1 rfl⟩) (first | (go_at_call 48; refine DC.out.mono ?_; rintro _ w12 ⟨⟨cd1, hc1, rfl⟩, H12⟩) | (go_at_call 43; refine (rbytes_calls (v := .slice ra (x.1 + 4) rc) hI (by omega) (by exact Reads.cons (Reads.cons Reads.row)) H12).mono ?_; rintro _ w13 ⟨r13, rfl, cd2, hc2, H13⟩; obtain ⟨ra2, rc2, hr2⟩ := H13.row_form; subst hr2; have hcc := hc1.uniq hc2; subst hcc) | (go_at_call 41; refine (bsame_calls (xs := b) (ys := cd1) (by omega) ((Reads.append hrb [_, _, _, _]) _ H13) H13.rd).mono ?_; rintro _ _ ⟨rfl, n, rfl⟩; have H14 := H13.drewN n))
        go_wp2_with fail
        go_ret
        subst HB
        exact ⟨by simp, H14.tail.tail.tail.tail.below⟩

end Go.Proofs.Ytglinpclcmmnbaa
