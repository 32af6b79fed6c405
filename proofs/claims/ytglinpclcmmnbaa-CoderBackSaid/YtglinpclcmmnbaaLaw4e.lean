/- Law 04: CoderBack. -/
import Derived.Test.YtglinpclcmmnbaaLaw4d
namespace Go.Proofs.Ytglinpclcmmnbaa
open Go.RowKit Go.ChangeShapes Go.WideShapes Go.Deep Go.Shelf

/-- Where the second decoder stands: it goes along if the byte more is 0. -/
def alongI (m : Nat) (its : List Stp) (t : Nat) : Nat × Nat × Nat := if m = 0 then runI firstI (its.take t) else firstI
theorem along_in {m t : Nat} {its : List Stp} {c : List Nat} (hlt : ∀ d ∈ c ++ [m], d < 256) (h : ∀ t, InI (runI firstI (its.take t)) c) : InI (alongI m its t) (c ++ [m]) := by
  unfold alongI
  split
  · subst m
    exact in_zero.2 (h t)
  · exact first_in hlt

set_option maxRecDepth 100000 in
set_option maxHeartbeats 8000000 in
theorem law_CoderBack (v : Value) (its : List Stp) {w : World} (hits : StpOk w v its) (m : Int) (wm : (Lit.int .u8 m).wf = true) :
    Calls Try.prog 15 #[v, .int .u8 m] w fun e w' => e = .returned (.bool true) ∧ Below w.heap.size w w' := by
  have hrd := hits.rd
  obtain ⟨va, vc, rfl⟩ := hits.1.form
  obtain ⟨hm0, hm1⟩ := wf_u8 wm
  obtain ⟨m, rfl⟩ := Int.eq_ofNat_of_zero_le hm0
  clear hits wm hm0
  have H := Sep.start w
  generalize hB : HP.old w.heap.size w = O at H hrd
  have HB := Lib.hid hB; clear hB
  go_enter Try.func15, Try.ntmps15
  go_wp2_with fail
  refine (awake4 H).mono ?_
  rintro e w1 ⟨rfl, H1⟩
  clear H
  go_wp2_with fail
  refine (great_calls hrd H1).mono ?_
  rintro e w2 ⟨g, rfl, hg, H2⟩
  clear H1
  cases g with
  | true =>
    go_wp2_with fail
    go_ret
    subst HB
    exact ⟨rfl, H2.below⟩
  | false =>
    obtain ⟨hlen, hok⟩ := hg.out rfl
    have hok := fun p hp => (hok p hp).2
    clear hg
    have CC := code_calls hlen hok hrd H2
    obtain ⟨hrd, hel⟩ := hrd
    obtain ⟨hI, hkk⟩ := runI_ok (x := firstI) (its := its) firstI_iv hok
    have hk : (runI firstI its).1 ≤ 120 := by
      have : firstI.1 = 0 := rfl
      omega
    have HEL := Lib.hid hel
    have HOK := Lib.hid hok
    clear hel hkk
    go_wp2_with fail
    refine CC.mono ?_
    rintro _ w3 ⟨_, rfl, u, c, rfl, hc, H3⟩
    obtain ⟨ua, uc, rfl⟩ := H3.row_form
    have hcl : ∀ d ∈ c, d < 256 := by obtain ⟨n, -, -, -, rfl⟩ := hc; exact digs_lt _ _
    have hcn : c.length ≤ 124 := Nat.le_trans hc.len_le (by omega)
    have hin : ∀ t, InI (runI firstI (its.take t)) c := runI_up firstI_iv hok hcl (code_in hI hc)
    have hml : ∀ d ∈ c ++ [m], d < 256 := fun d hd => by
      rcases List.mem_append.1 hd with hd | hd
      · exact hcl d hd
      · obtain rfl : d = m := by simpa using hd
        omega
    have HIN := Lib.hid hin
    have HCL := Lib.hid hcl
    have HML := Lib.hid hml
    have HC := Lib.hid hc
    clear CC H2 hcl hin hml hc hok
    have ND := newdec_calls (v := .slice ua c.length uc) (by omega) HCL.out (by exact Reads.row) H3
    go_wp2_with fail
    refine ND.mono ?_
    rintro _ w4 ⟨_, rfl, q, rfl, H4⟩
    clear ND H3
    have HE : Sep (w4.alloc (.cells #[] 5)) (HP.row 5 1 (.slice (some ⟨w4.heap.size, 0, none⟩) 0 0) 0 [] :: DecI q c firstI :: HP.row 5 1 (.slice ua c.length uc) c.length (c.map bv) :: [O]) :=
      Sep.row_shut (H4.alloc #[] 5) (Nat.le_refl _) (by unfold maxLen; omega) rfl rfl
    have hrd1 := HE.tail.tail.rd
    have h63 : 0 + c.length ≤ maxLen := by unfold maxLen; omega
    have hby : (0 + c.length) * 1 ≤ 140737488355328 := by omega
    have h63b : c.length + 1 ≤ maxLen := by unfold maxLen; omega
    have hbyb : (c.length + 1) * 1 ≤ 140737488355328 := by omega
    have hmm : c.map bv ++ [Value.int .u8 (m : Int)] = (c ++ [m]).map bv := by simp [bv]
    have HMM := Lib.hid hmm
    clear hmm
    go_wp2_with ((at_builtin; go_must (first | (refine wpList_append_src rfl (.tmp 30) (.tmp 31) 61 rfl 5 (.int .u8 0) 1 1 Try.underlying61 info_byte rfl (by decide) (.slice (some ⟨w4.heap.size, 0, none⟩) 0 0) 0 [] rfl HE (.slice ua c.length uc) _ _ rfl hrd1 (bv_one _) h63 hby ?_; intro v5 w5 H5; rw [Nat.zero_add, List.nil_append] at H5; obtain ⟨va5, vc5, hv5⟩ := H5.row_form; subst hv5) | (refine wpList_append_src rfl (.tmp 32) (.tmp 34) 61 rfl 5 (.int .u8 0) 1 1 Try.underlying61 info_byte rfl (by decide) (.slice va5 c.length vc5) c.length _ rfl (H5.alloc #[.int .u8 (m : Int)] 5).swap (.slice (some ⟨w5.heap.size, 0, none⟩) 1 1) 1 [.int .u8 (m : Int)] rfl (rd_new (H5.alloc #[.int .u8 (m : Int)] 5)) (by intro u hu; simp at hu; subst hu; rfl) h63b hbyb ?_; intro v7 w7 H7; rw [HMM.out] at H7; obtain ⟨va7, vc7, hv7⟩ := H7.row_form; subst hv7))))
    clear H5 HE hrd1 H4 HMM
    have hcl1 : (c ++ [m]).length = c.length + 1 := by simp
    rw [← hcl1] at H7 ⊢
    have ND := newdec_calls (v := .slice va7 (c ++ [m]).length vc7) (by rw [hcl1]; omega) HML.out (by exact Reads.row) H7
    refine ND.mono ?_
    rintro _ w8 ⟨_, rfl, q2, rfl, H8⟩
    clear ND
    have H9 : Sep w8 (DecI q c (runI firstI (its.take 0)) :: DecI q2 (c ++ [m]) (alongI m its 0) :: HP.row 5 1 (.slice ua c.length uc) c.length (c.map bv) :: [O]) := by
      have e0 : alongI m its 0 = firstI := by unfold alongI; split <;> rfl
      rw [e0]
      exact H8.rot4.rot4.tail.rot3.tail
    clear H8 H7
    go_wp2_with fail
    go_loopg [9] its.length (fun gk i wr => ∃ t : Nat, Hid (t ≤ its.length ∧ gk = its.length - t) ∧ i = .int .i64 (t : Int) ∧ Sep wr (DecI q c (runI firstI (its.take t)) :: DecI q2 (c ++ [m]) (alongI m its t) :: HP.row 5 1 (.slice ua c.length uc) c.length (c.map bv) :: [O]))
    case atStart => exact ⟨0, Lib.hid ⟨by omega, rfl⟩, rfl, H9⟩
    case round =>
      clear H9
      obtain ⟨t, hq, rfl, Hr⟩ := hrel
      obtain ⟨q1, q2'⟩ := hq.out
      clear hq
      obtain ⟨hI1, hkk⟩ := runI_ok (x := firstI) (its := its.take t) firstI_iv (fun p hp => HOK.out p (List.mem_of_mem_take hp))
      have hk1 : (runI firstI (its.take t)).1 ≤ 120 := by
        have : (its.take t).length ≤ t := by simp; omega
        have : firstI.1 = 0 := rfl
        omega
      clear hkk
      by_cases ht : t < its.length
      · have HST := Lib.hid (runI_take (x := firstI) ht)
        have HST2 : Hid (alongI m its (t + 1) = if m = 0 then stepI (runI firstI (its.take t)) its[t].2.1 its[t].2.2.toNat else firstI) := Lib.hid (by unfold alongI; rw [HST.out])
        have hin0 := HIN.out t
        have hin1 := HIN.out (t + 1)
        rw [HST.out] at hin1
        obtain ⟨g, o, cap', he⟩ := (hrd _ (Sep.drop_left (S := [_, _, _]) Hr)).open (by omega)
        simp only [Value.slice.injEq, true_and] at he
        obtain ⟨rfl, rfl⟩ := he
        obtain ⟨s0, s1⟩ := stp_get ht
        have hr1 := HEL.out _ (List.getElem_mem ht)
        have hR := HOK.out _ (List.getElem_mem ht)
        have hti : (t : Int) < (its.length : Int) := by omega
        have HAL : Hid (alongI m its t = if m = 0 then runI firstI (its.take t) else firstI) := Lib.hid rfl
        generalize runI firstI (its.take t) = x at *
        generalize its[t] = p at *
        obtain ⟨sv, cs, s⟩ := p
        obtain ⟨hv, hs1, hs2⟩ := hR
        simp only at s0 s1 hr1 hv hs1 hs2 HST HST2 hin1
        obtain ⟨s, rfl⟩ := Int.eq_ofNat_of_zero_le hs1
        rw [Int.toNat_natCast] at HST HST2 hin1
        have hs : s < cs.length := by omega
        obtain ⟨sa, sc, rfl⟩ := (hr1 _ (Sep.drop_left (S := [_, _, _]) Hr)).form
        have HC0 : Hid (∀ w', Sep w' [O] → w'.cell? ⟨g, o + t * 2, none⟩ = some (.slice sa cs.length sc)) := Lib.hid fun w' h => (hrd _ h).cell (t * 2) s0
        have HC1 : Hid (∀ w', Sep w' [O] → w'.cell? ⟨g, o + t * 2 + 1, none⟩ = some (.int .i64 (s : Int))) := Lib.hid fun w' h => (hrd _ h).cell (t * 2 + 1) s1
        clear s0 s1
        have k0 := HC0.out _ (Sep.drop_left (S := [_, _, _]) Hr)
        have HM := Lib.hid fun (w' : World) (A B C : HP) (h : Sep w' (A :: B :: C :: [O])) => made_calls hv hr1.cons.cons.cons h
        have HU := Lib.hid fun (s' : Nat) (h1 : s' < cs.length) (h2 : InI (stepI x cs s') c) => step_uniq hI1 hv hs h1 HCL.out hin1 h2
        have HV := Lib.hid hv
        have HIN0 := Lib.hid hin0
        have HIN1 := Lib.hid hin1
        clear hv hr1 hin0 hin1
        have C1 := HM.out _ _ _ _ Hr
        go_wp2_with fail
        refine C1.mono ?_
        rintro _ w6 ⟨_, rfl, bt, rfl, H6⟩
        clear C1
        have C2 := decode_calls hI1 (by omega) HV.out HCL.out HIN0.out H6.swap
        go_wp2_with fail
        refine C2.mono ?_
        rintro _ w7 ⟨s', rfl, hs', hin', H7⟩
        have hss := HU.out s' hs' hin'
        subst hss
        clear C2 H6 hin' k0
        have H8 := H7.swap.tail
        have k0 := HC0.out _ (Sep.drop_left (S := [_, _, _]) H8)
        have k1 := HC1.out _ (Sep.drop_left (S := [_, _, _]) H8)
        clear H7 Hr
        by_cases hm : m = 0
        · subst hm
          rw [HAL.out, if_pos rfl] at H8
          rw [if_pos rfl] at HST2
          have C1 := HM.out _ _ _ _ H8
          go_wp2_with fail
          refine C1.mono ?_
          rintro _ w9 ⟨_, rfl, bt2, rfl, H9⟩
          clear C1
          have C2 := decode_calls hI1 (by omega) HV.out HML.out (in_zero.2 HIN0.out) H9.rot3
          go_wp2_with fail
          refine C2.mono ?_
          rintro _ w10 ⟨s', rfl, hs', hin', H10⟩
          have hss := HU.out s' hs' (in_zero.1 hin')
          subst hss
          clear C2 H8 H9 hin' k0 k1
          have H11 := H10.swap.tail.swap
          go_wp2_with fail
          go_roundg (its.length - (t + 1))
          case rel => exact ⟨t + 1, Lib.hid ⟨by omega, rfl⟩, by go_num, by rw [HST.out, HST2.out]; exact H11⟩
          case measure => omega
        · have hm2 : ¬ (m : Int) = 0 := by omega
          rw [HAL.out, if_neg hm] at H8
          rw [if_neg hm] at HST2
          go_wp2_with fail
          go_roundg (its.length - (t + 1))
          case rel => exact ⟨t + 1, Lib.hid ⟨by omega, rfl⟩, by go_num, by rw [HST.out, HST2.out]; exact H8⟩
          case measure => omega
      · have hti : ¬ (t : Int) < (its.length : Int) := by omega
        obtain rfl : t = its.length := by omega
        have hTL := List.take_length (l := its)
        rw [hTL] at Hr hI1 hk1
        have C1 := done_calls hI1 (by omega) HCL.out Hr
        go_wp2_with fail
        refine C1.mono ?_
        rintro _ w6 ⟨⟨c', hc', rfl⟩, H6⟩
        have hcc := HC.out.uniq hc'
        subst hcc
        rw [decide_eq_true (rfl : c = c)]
        clear C1 hc'
        by_cases hm : m = 0
        · subst hm
          have C1 := done_calls (q := q2) (x := alongI 0 its its.length) (by unfold alongI; rw [if_pos rfl, hTL]; exact hI1) (by unfold alongI; rw [if_pos rfl, hTL]; omega) HML.out H6.swap
          have hne : decide (c ++ [0] = c) = false := decide_eq_false (by simp)
          go_wp2_with fail
          refine C1.mono ?_
          rintro _ w7 ⟨⟨c', hc', rfl⟩, H7'⟩
          have hcc : c' = c := IsCode.uniq (by unfold alongI at hc'; rw [if_pos rfl, hTL] at hc'; exact hc') HC.out
          subst hcc
          rw [hne]
          have H7 := H7'.swap
          clear C1 hc' hne H7' H6
          by_cases hc0 : c'.length = 0
          · have hc1 : ((c'.length : Int) == 0) = true := beq_iff_eq.2 (by omega)
            have hc2 := List.eq_nil_of_length_eq_zero hc0
            go_wp2_with fail
            go_ret
            subst HB
            exact ⟨rfl, H7.tail.tail.tail.below⟩
          obtain ⟨gu, cu, hcu, hsv, hcu2⟩ := (Sep.drop_left (S := [_, _]) H7).row_open hc0
          simp only [Value.slice.injEq, true_and] at hsv
          obtain ⟨rfl, rfl⟩ := hsv
          have hc1 : ((c'.length : Int) == 0) = false := beq_eq_false_iff_ne.2 (by omega)
          have hc2 : ¬ c' = [] := fun h => hc0 (by rw [h]; rfl)
          have hn1 : ((c'.length : Int) - 1) = ((c'.length - 1 : Nat) : Int) := by omega
          have HN1 := Lib.hid hn1
          clear hn1
          go_wp2_with fail
          have hlT : (c'.take (c'.length - 1)).length = c'.length - 1 := by simp
          have hltT : ∀ d ∈ c'.take (c'.length - 1), d < 256 := fun d hd => HCL.out d (List.mem_of_mem_take hd)
          have ND := newdec_calls (v := .slice (some ⟨gu, 0, none⟩) (c'.length - 1) uc) (b := c'.take (c'.length - 1)) (by rw [hlT]; omega) hltT (by rw [hlT, List.map_take]; exact fun w' h => RdS.take (Sep.rd (Sep.drop_left (S := [_, _]) h)) (by omega)) H7
          have HNO := Lib.hid (code_less (b := c'.take (c'.length - 1)) HC.out (by rw [hlT]; omega))
          have HLT := Lib.hid hltT
          clear hltT hlT HN1
          generalize c'.take (c'.length - 1) = b3 at *
          refine ND.mono ?_
          rintro _ w8 ⟨_, rfl, q3, rfl, H8⟩
          clear ND H7 hcu2
          have H9 := H8.swap.tail.swap.tail.swap.tail
          clear H8 hI hk hTL hI1 hk1
          go_wp2_with fail
          go_loopg [14] its.length (fun gk i wr => ∃ t : Nat, Hid (t ≤ its.length ∧ gk = its.length - t ∧ InI (runI firstI (its.take t)) b3) ∧ i = .int .i64 (t : Int) ∧ Sep wr (DecI q3 b3 (runI firstI (its.take t)) :: [O]))
          case atStart => exact ⟨0, Lib.hid ⟨by omega, rfl, first_in HLT.out⟩, rfl, H9⟩
          case round =>
            clear H9
            obtain ⟨t, hq, rfl, Hr⟩ := hrel
            obtain ⟨q1, q2', hin0⟩ := hq.out
            clear hq
            obtain ⟨hI1, hkk⟩ := runI_ok (x := firstI) (its := its.take t) firstI_iv (fun p hp => HOK.out p (List.mem_of_mem_take hp))
            have hk1 : (runI firstI (its.take t)).1 ≤ 120 := by
              have : (its.take t).length ≤ t := by simp; omega
              have : firstI.1 = 0 := rfl
              omega
            clear hkk
            by_cases ht : t < its.length
            · have HST := Lib.hid (runI_take (x := firstI) ht)
              obtain ⟨g, o, cap', he⟩ := (hrd _ Hr.tail).open (by omega)
              simp only [Value.slice.injEq, true_and] at he
              obtain ⟨rfl, rfl⟩ := he
              obtain ⟨s0, s1⟩ := stp_get ht
              have hr1 := HEL.out _ (List.getElem_mem ht)
              have hR := HOK.out _ (List.getElem_mem ht)
              have hti : (t : Int) < (its.length : Int) := by omega
              generalize runI firstI (its.take t) = x at *
              generalize its[t] = p at *
              obtain ⟨sv, cs, s⟩ := p
              obtain ⟨hv, hs1, hs2⟩ := hR
              simp only at s0 s1 hr1 hv hs1 hs2 HST
              obtain ⟨s, rfl⟩ := Int.eq_ofNat_of_zero_le hs1
              rw [Int.toNat_natCast] at HST
              have hs : s < cs.length := by omega
              obtain ⟨sa, sc, rfl⟩ := (hr1 _ Hr.tail).form
              have k0 := (hrd _ Hr.tail).cell (t * 2) s0
              have HC1 : Hid (∀ w', Sep w' [O] → w'.cell? ⟨g, o + t * 2 + 1, none⟩ = some (.int .i64 (s : Int))) := Lib.hid fun w' h => (hrd _ h).cell (t * 2 + 1) s1
              clear s0 s1
              have C1 := made_calls hv hr1.cons Hr
              have HV := Lib.hid hv
              have HIN0 := Lib.hid hin0
              clear hv hr1 hin0
              go_wp2_with fail
              refine C1.mono ?_
              rintro _ w6 ⟨_, rfl, bt, rfl, H6⟩
              clear C1
              have C2 := decode_calls hI1 (by omega) HV.out HLT.out HIN0.out H6.swap
              go_wp2_with fail
              refine C2.mono ?_
              rintro _ w7 ⟨s', rfl, hs', hin', H7⟩
              have HIN1 := Lib.hid hin'
              clear C2 H6 k0 hin'
              have H8 := H7.swap.tail
              have k1 := HC1.out _ H8.tail
              clear H7 Hr
              by_cases hss : s' = s
              · subst hss
                go_wp2_with fail
                go_roundg (its.length - (t + 1))
                case rel => exact ⟨t + 1, Lib.hid ⟨by omega, rfl, by rw [HST.out]; exact HIN1.out⟩, by go_num, by rw [HST.out]; exact H8⟩
                case measure => omega
              · have hsi : ¬ (s' : Int) = (s : Int) := by omega
                have hsb : ((s' : Int) != (s : Int)) = true := by rw [bne_iff_ne]; omega
                clear hss
                go_wp2_with fail
                go_ret
                subst HB
                exact ⟨rfl, H8.tail.below⟩
            · obtain rfl : t = its.length := by omega
              rw [List.take_length] at hin0
              exact absurd hin0 HNO.out
        · have hm2 : ¬ (m : Int) = 0 := by omega
          have H7 := H6
          clear H6
          by_cases hc0 : c.length = 0
          · have hc1 : ((c.length : Int) == 0) = true := beq_iff_eq.2 (by omega)
            have hc2 := List.eq_nil_of_length_eq_zero hc0
            go_wp2_with fail
            go_ret
            subst HB
            exact ⟨rfl, H7.tail.tail.tail.below⟩
          obtain ⟨gu, cu, hcu, hsv, hcu2⟩ := (Sep.drop_left (S := [_, _]) H7).row_open hc0
          simp only [Value.slice.injEq, true_and] at hsv
          obtain ⟨rfl, rfl⟩ := hsv
          have hc1 : ((c.length : Int) == 0) = false := beq_eq_false_iff_ne.2 (by omega)
          have hc2 : ¬ c = [] := fun h => hc0 (by rw [h]; rfl)
          have hn1 : ((c.length : Int) - 1) = ((c.length - 1 : Nat) : Int) := by omega
          have HN1 := Lib.hid hn1
          clear hn1
          go_wp2_with fail
          have hlT : (c.take (c.length - 1)).length = c.length - 1 := by simp
          have hltT : ∀ d ∈ c.take (c.length - 1), d < 256 := fun d hd => HCL.out d (List.mem_of_mem_take hd)
          have ND := newdec_calls (v := .slice (some ⟨gu, 0, none⟩) (c.length - 1) uc) (b := c.take (c.length - 1)) (by rw [hlT]; omega) hltT (by rw [hlT, List.map_take]; exact fun w' h => RdS.take (Sep.rd (Sep.drop_left (S := [_, _]) h)) (by omega)) H7
          have HNO := Lib.hid (code_less (b := c.take (c.length - 1)) HC.out (by rw [hlT]; omega))
          have HLT := Lib.hid hltT
          clear hltT hlT HN1
          generalize c.take (c.length - 1) = b3 at *
          refine ND.mono ?_
          rintro _ w8 ⟨_, rfl, q3, rfl, H8⟩
          clear ND H7 hcu2
          have H9 := H8.swap.tail.swap.tail.swap.tail
          clear H8 hI hk hTL hI1 hk1
          go_wp2_with fail
          go_loopg [14] its.length (fun gk i wr => ∃ t : Nat, Hid (t ≤ its.length ∧ gk = its.length - t ∧ InI (runI firstI (its.take t)) b3) ∧ i = .int .i64 (t : Int) ∧ Sep wr (DecI q3 b3 (runI firstI (its.take t)) :: [O]))
          case atStart => exact ⟨0, Lib.hid ⟨by omega, rfl, first_in HLT.out⟩, rfl, H9⟩
          case round =>
            clear H9
            obtain ⟨t, hq, rfl, Hr⟩ := hrel
            obtain ⟨q1, q2', hin0⟩ := hq.out
            clear hq
            obtain ⟨hI1, hkk⟩ := runI_ok (x := firstI) (its := its.take t) firstI_iv (fun p hp => HOK.out p (List.mem_of_mem_take hp))
            have hk1 : (runI firstI (its.take t)).1 ≤ 120 := by
              have : (its.take t).length ≤ t := by simp; omega
              have : firstI.1 = 0 := rfl
              omega
            clear hkk
            by_cases ht : t < its.length
            · have HST := Lib.hid (runI_take (x := firstI) ht)
              obtain ⟨g, o, cap', he⟩ := (hrd _ Hr.tail).open (by omega)
              simp only [Value.slice.injEq, true_and] at he
              obtain ⟨rfl, rfl⟩ := he
              obtain ⟨s0, s1⟩ := stp_get ht
              have hr1 := HEL.out _ (List.getElem_mem ht)
              have hR := HOK.out _ (List.getElem_mem ht)
              have hti : (t : Int) < (its.length : Int) := by omega
              generalize runI firstI (its.take t) = x at *
              generalize its[t] = p at *
              obtain ⟨sv, cs, s⟩ := p
              obtain ⟨hv, hs1, hs2⟩ := hR
              simp only at s0 s1 hr1 hv hs1 hs2 HST
              obtain ⟨s, rfl⟩ := Int.eq_ofNat_of_zero_le hs1
              rw [Int.toNat_natCast] at HST
              have hs : s < cs.length := by omega
              obtain ⟨sa, sc, rfl⟩ := (hr1 _ Hr.tail).form
              have k0 := (hrd _ Hr.tail).cell (t * 2) s0
              have HC1 : Hid (∀ w', Sep w' [O] → w'.cell? ⟨g, o + t * 2 + 1, none⟩ = some (.int .i64 (s : Int))) := Lib.hid fun w' h => (hrd _ h).cell (t * 2 + 1) s1
              clear s0 s1
              have C1 := made_calls hv hr1.cons Hr
              have HV := Lib.hid hv
              have HIN0 := Lib.hid hin0
              clear hv hr1 hin0
              go_wp2_with fail
              refine C1.mono ?_
              rintro _ w6 ⟨_, rfl, bt, rfl, H6⟩
              clear C1
              have C2 := decode_calls hI1 (by omega) HV.out HLT.out HIN0.out H6.swap
              go_wp2_with fail
              refine C2.mono ?_
              rintro _ w7 ⟨s', rfl, hs', hin', H7⟩
              have HIN1 := Lib.hid hin'
              clear C2 H6 k0 hin'
              have H8 := H7.swap.tail
              have k1 := HC1.out _ H8.tail
              clear H7 Hr
              by_cases hss : s' = s
              · subst hss
                go_wp2_with fail
                go_roundg (its.length - (t + 1))
                case rel => exact ⟨t + 1, Lib.hid ⟨by omega, rfl, by rw [HST.out]; exact HIN1.out⟩, by go_num, by rw [HST.out]; exact H8⟩
                case measure => omega
              · have hsi : ¬ (s' : Int) = (s : Int) := by omega
                have hsb : ((s' : Int) != (s : Int)) = true := by rw [bne_iff_ne]; omega
                clear hss
                go_wp2_with fail
                go_ret
                subst HB
                exact ⟨rfl, H8.tail.below⟩
            · obtain rfl : t = its.length := by omega
              rw [List.take_length] at hin0
              exact absurd hin0 HNO.out


end Go.Proofs.Ytglinpclcmmnbaa
