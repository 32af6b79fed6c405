import Derived.Test.YtglinpclcmmnbaaLaw3c
namespace Go.Proofs.Ytglinpclcmmnbaa
open Go.RowKit

theorem isum_take_set {l : List Int} {s i : Nat} {d : Int} (hs : s < l.length) : isum ((l.set s (l.getD s 0 + d)).take i) = isum (l.take i) + if s < i then d else 0 := by
  rw [List.take_set]
  by_cases h : s < i
  · rw [if_pos h]
    have hl : s < (l.take i).length := by rw [List.length_take]; omega
    have hg : (l.take i)[s] = l[s] := List.getElem_take
    rw [isum_set hl, hg, getD_get hs]
    omega
  · rw [if_neg h, List.set_eq_of_length_le (by rw [List.length_take]; omega)]
    omega

set_option maxRecDepth 100000 in
set_option maxHeartbeats 4000000 in
theorem law_TableMoves (a : Option Addr) (len cap : Nat) (z : List Int) {w : World} (hrow : IsRow .i64 w a len cap z) (sym : Int) (wsym : (Lit.int .u8 sym).wf = true) :
    Calls Try.prog 8 #[.slice a len cap, .int .u8 sym] w fun e w' => e = .returned (.bool true) ∧ Below w.heap.size w w' := by
  obtain ⟨xs, hl, -, hrd, hfit⟩ := hrow.ints
  subst hl
  have hs0 := (wf_u8 wsym).1
  have hs1 := (wf_u8 wsym).2
  clear hrow wsym
  have H := Sep.start w
  have HRD : Hid (Reads [HP.old w.heap.size w] (.slice a xs.length cap) xs.length 1 (xs.map iv)) := Lib.hid (Reads.old hrd)
  clear hrd
  generalize hB : HP.old w.heap.size w = O at H HRD
  have HB := Lib.hid hB; clear hB
  have HF := Lib.hid hfit
  clear hfit
  by_cases hfew : 40 < xs.length
  · go_enter Try.func8, Try.ntmps8
    go_wp2_with fail
    refine (awake3 H).mono ?_
    rintro e w1 ⟨rfl, H1⟩
    go_wp2_with fail
    go_ret
    subst HB
    exact ⟨rfl, H1.below⟩
  by_cases hfew2 : xs.length = 0
  · have h0 : ((xs.length : Int) == 0) = true := by rw [beq_iff_eq]; omega
    go_enter Try.func8, Try.ntmps8
    go_wp2_with fail
    refine (awake3 H).mono ?_
    rintro e w1 ⟨rfl, H1⟩
    go_wp2_with fail
    go_ret
    subst HB
    exact ⟨rfl, H1.below⟩
  have h0 : ((xs.length : Int) == 0) = false := by rw [beq_eq_false_iff_ne]; omega
  go_enter Try.func8, Try.ntmps8
  go_wp2_with fail
  refine (awake3 H).mono ?_
  rintro e w1 ⟨rfl, H1⟩
  clear H
  go_wp2_with fail
  refine (rcheck_calls (by omega) (HRD.out _ H1)).mono ?_
  rintro e w3 ⟨rfl, rfl⟩
  by_cases he : tabErr xs = 0
  · have hv := tabErr_ok he
    rw [he]
    have HV := Lib.hid hv
    go_wp2_with fail
    refine (rtotal_calls HV.out.2.2.1 (by have := HV.out.2.2.2; omega) (HRD.out _ H1)).mono ?_
    rintro e w3 ⟨rfl, rfl⟩
    by_cases hbig : 65504 < isum xs
    · clear hv
      go_wp2_with fail
      go_ret
      subst HB
      exact ⟨rfl, H1.below⟩
    go_wp2_with fail
    refine (new_calls HRD.out H1).mono ?_
    rintro e w2 ⟨r, rfl, ⟨hne, -, -⟩ | ⟨-, b, rfl, H2⟩⟩
    · exact absurd he hne
    clear hv he H1
    obtain ⟨k, hk⟩ : ∃ k : Nat, (k : Int) = sym % (xs.length : Int) := ⟨(sym % (xs.length : Int)).toNat, Int.toNat_of_nonneg (Int.emod_nonneg _ (by omega))⟩
    have hk2 : k < xs.length := by have := Int.emod_lt_of_pos sym (show (0 : Int) < (xs.length : Int) by omega); omega
    have hrem : sym.tmod (xs.length : Int) = (k : Int) := by rw [Int.tmod_eq_emod_of_nonneg hs0, hk]
    have hds : bumpOf xs k = xs.set k (xs.getD k 0 + 32) := by unfold bumpOf; rw [if_neg (by omega)]
    have e1 : bumpI xs k = xs.set k (xs.getD k 0 + 32) := by unfold bumpI; rw [if_pos (by omega), Int.toNat_natCast, hds]
    have e2 : bumpE xs k = 0 := by unfold bumpE; rw [if_pos (by omega)]
    have hlen : (xs.set k (xs.getD k 0 + 32)).length = xs.length := List.length_set
    have HVD : Hid (Vt (xs.set k (xs.getD k 0 + 32))) := Lib.hid (by rw [← hds]; exact bumpOf_ok HV.out hk2)
    have HSD : Hid (∀ i, isum ((xs.set k (xs.getD k 0 + 32)).take i) = isum (xs.take i) + if k < i then 32 else 0) := Lib.hid fun i => isum_take_set hk2
    have HTD : Hid (isum (xs.set k (xs.getD k 0 + 32)) = isum xs + 32) := Lib.hid (bump_sum hk2)
    have HBC : Hid (∀ w1, Sep w1 (Tbl b xs :: [O]) → Calls Try.prog 28 #[.pointer (some ⟨b, 0, none⟩), .int .i64 (k : Int)] w1 fun e w' => e = .returned (.int .i64 0) ∧ Sep w' (Tbl b (xs.set k (xs.getD k 0 + 32)) :: [O])) := Lib.hid fun w1 h => by have := bump_calls (i := k) HV.out h; rwa [e1, e2] at this
    generalize xs.set k (xs.getD k 0 + 32) = ds at *
    clear hk hds e1 e2
    go_wp2_with fail
    refine (HBC.out _ H2).mono ?_
    rintro e w3 ⟨rfl, H3⟩
    clear H2 hrem
    go_wp2_with fail
    go_loopg [8, 9] xs.length (fun gk i _ wr => ∃ t : Nat, Hid (t ≤ xs.length ∧ gk = xs.length - t) ∧ i = .int .i64 (t : Int) ∧ ∃ n, wr = w3.drewN n)
    case atStart => exact ⟨0, Lib.hid ⟨by omega, rfl⟩, rfl, 0, rfl⟩
    case round =>
      obtain ⟨t, hq, rfl, n, rfl⟩ := hrel
      obtain ⟨q1, q2⟩ := hq.out
      clear hq
      have H4 := H3.drewN n
      generalize hw : w3.drewN n = w4 at H4 ⊢
      have HW := Lib.hid hw
      clear hw
      by_cases c : t < xs.length
      · have hl1 := rlow_calls (i := t) HF.out HV.out.2.2.1 (by have := HV.out.2.2.2; omega) (HRD.out _ H4.tail)
        have hl2 := low_calls (i := t) HVD.out H4
        rw [lowI_in c] at hl1
        rw [lowI_in (by omega), HSD.out t] at hl2
        have b0 := isum_take_nonneg HV.out.2.2.1 t
        have b1 := isum_take_le HV.out.2.2.1 t
        have HL1 := Lib.hid hl1
        have HL2 := Lib.hid hl2
        clear hl1 hl2
        generalize isum (xs.take t) = X at *
        by_cases ck : k < t
        · rw [if_pos ck] at HL2
          go_wp2_with fail
          refine HL1.out.mono ?_
          rintro e w5 ⟨rfl, rfl⟩
          go_wp2_with fail
          refine HL2.out.mono ?_
          rintro e w5 ⟨rfl, rfl⟩
          go_wp2_with fail
          go_roundg (xs.length - (t + 1))
          case rel => exact ⟨t + 1, Lib.hid ⟨by omega, rfl⟩, by go_num, n, HW.out.symm⟩
          case measure => omega
        · rw [if_neg ck, Int.add_zero] at HL2
          go_wp2_with fail
          refine HL1.out.mono ?_
          rintro e w5 ⟨rfl, rfl⟩
          go_wp2_with fail
          refine HL2.out.mono ?_
          rintro e w5 ⟨rfl, rfl⟩
          go_wp2_with fail
          go_roundg (xs.length - (t + 1))
          case rel => exact ⟨t + 1, Lib.hid ⟨by omega, rfl⟩, by go_num, n, HW.out.symm⟩
          case measure => omega
      · have ht := total_calls H4
        rw [HTD.out] at ht
        have HT := Lib.hid ht
        have b0 := isum_nonneg HV.out.2.2.1
        clear ht
        go_wp2_with fail
        refine HT.out.mono ?_
        rintro e w5 ⟨rfl, rfl⟩
        go_wp2_with fail
        refine (rtotal_calls HV.out.2.2.1 (by omega) (HRD.out _ H4.tail)).mono ?_
        rintro e w5 ⟨rfl, rfl⟩
        go_wp2_with fail
        go_ret
        subst HB
        exact ⟨rfl, H4.tail.below⟩
  · have hne : ((tabErr xs : Int) != 0) = true := by rw [bne_iff_ne]; omega
    generalize tabErr xs = t at hne ⊢
    clear he
    go_wp2_with fail
    go_ret
    subst HB
    exact ⟨rfl, H1.below⟩

end Go.Proofs.Ytglinpclcmmnbaa
