import Derived.Test.YtoejgfbeemokcaaRowsPlain
import Derived.Test.YtoejgfbeemokcaaLaw1b
namespace Go.Proofs.Ytoejgfbeemokcaa
open Go.RowKit

set_option maxRecDepth 100000 in
set_option maxHeartbeats 4000000 in
theorem law_NumRows (a : Option Addr) (len cap : Nat) (z : List Int) {w : World} (hrow : IsRow .u32 w a len cap z)
    (a2 : Option Addr) (len2 cap2 : Nat) (z2 : List Int) (hrow2 : IsRow .u16 w a2 len2 cap2 z2) :
    Calls Try.prog 18 #[.slice a len cap, .slice a2 len2 cap2] w fun e w' => e = .returned (.bool true) ∧ Below w.heap.size w w' := by
  have hrd := hrow.rd
  have hl := hrow.len
  have hw : ∀ x ∈ z.take len, 0 ≤ x ∧ x ≤ 4294967295 := fun x h => wf_u32 (hrow.wf x h)
  have hrd2 := hrow2.rd
  have hl2 := hrow2.len
  have hw2 : ∀ x ∈ z2.take len2, 0 ≤ x ∧ x ≤ 65535 := fun x h => wf_u16 (hrow2.wf x h)
  clear hrow hrow2
  generalize z.take len = ws at hrd hl hw
  generalize z2.take len2 = bs at hrd2 hl2 hw2
  subst hl
  subst hl2
  have H := Sep.start w
  have HRD := Lib.hid (Reads.old (R := []) hrd)
  have HRD2 := Lib.hid (Reads.old (R := []) hrd2)
  clear hrd hrd2
  generalize hB : HP.old w.heap.size w = O at H HRD HRD2
  have HB := Lib.hid hB; clear hB
  have HW := Lib.hid hw; clear hw
  have HW2 := Lib.hid hw2; clear hw2
  by_cases hfew : 30 < ws.length
  · go_enter Try.func18, Try.ntmps18
    go_wp2_with fail
    refine (awake2 H).mono ?_
    rintro e w1 ⟨rfl, H1⟩
    go_wp2_with fail
    go_ret
    subst HB
    exact ⟨rfl, H1.below⟩
  have hlenI : (ws.length : Int) ≤ 30 := by omega
  have HUP : Hid (∀ t, t ≤ ws.length → (rowUpto ws bs t).length ≤ 1950) := Lib.hid fun t ht => by
    have := rowUpto_le HW.out HW2.out t ht
    omega
  have HMO : Hid (∀ t, t ≤ ws.length → (rowUpto ws bs t).length ≤ (rowUpto ws bs ws.length).length) := Lib.hid fun t ht => rowUpto_mono ht
  have HDR : Hid (∀ t, t < ws.length → (rowUpto ws bs ws.length).drop (rowUpto ws bs t).length = rowPiece ws bs t ++ (rowUpto ws bs ws.length).drop (rowUpto ws bs (t + 1)).length) := Lib.hid fun t ht => rowUpto_drop ht
  have HSU : Hid (∀ t, rowUpto ws bs (t + 1) = rowUpto ws bs t ++ rowPiece ws bs t) := Lib.hid (rowUpto_succ ws bs)
  have HPL : Hid (∀ t, t < ws.length → (rowPiece ws bs t).length ≤ 65) := Lib.hid fun t ht => rowPiece_le HW.out HW2.out ht
  have HU0 : Hid (rowUpto ws bs 0 = []) := Lib.hid rfl
  generalize rowUpto ws bs = U at *
  clear hfew
  go_enter Try.func18, Try.ntmps18
  go_wp2_with fail
  refine (awake2 H).mono ?_
  rintro e w1 ⟨rfl, H1⟩
  clear H
  have H2 := Wr.new H1
  go_wp2_with fail
  generalize w1.heap.size = q at H2 ⊢
  generalize w1.alloc (.cells #[.slice none 0 0, .int .i64 0] 26) = w2 at H2 ⊢
  go_loopg [6, 7, 8, 9, 27] ws.length (fun gk size _ _ _ i wr => ∃ t : Nat, Hid (t ≤ ws.length ∧ gk = ws.length - t) ∧ size = .int .i64 ((U t).length : Int) ∧ i = .int .i64 (t : Int) ∧ Sep wr (Wr q (U t) :: [O]))
  case atStart => exact ⟨0, Lib.hid ⟨by omega, rfl⟩, by rw [HU0.out]; rfl, rfl, by rw [HU0.out]; exact H2⟩
  case round =>
    clear H2 H1
    obtain ⟨t, hq, rfl, rfl, Hr⟩ := hrel
    obtain ⟨q1, q2⟩ := hq.out
    clear hq
    have hut := HUP.out t q1
    by_cases c : t < ws.length
    · skip
      have hrw := HRD.out _ Hr.tail
      obtain ⟨g, o, d, he⟩ := hrw.open (by omega)
      simp only [Value.slice.injEq, true_and] at he
      obtain ⟨rfl, rfl⟩ := he
      have hc : wr.cell? ⟨g, o + t, none⟩ = some (.int .u32 ws[t]) := hrw.cell _ (by simp [List.getElem?_eq_getElem c])
      have HC : Hid (∀ w6, Sep w6 [O] → w6.cell? ⟨g, o + t, none⟩ = some (.int .u32 ws[t])) := Lib.hid fun w6 h6 => (HRD.out w6 h6).cell _ (by simp [List.getElem?_eq_getElem c])
      have hn := HW.out _ (List.getElem_mem c)
      have hgn : ws.getD t 0 = ws[t] := by rw [List.getD, List.getElem?_eq_getElem c]; rfl
      clear hrw
      generalize ws[t] = n at hc HC hn hgn
      have HGN := Lib.hid hgn
      clear hgn
      obtain ⟨m, rfl⟩ := Int.eq_ofNat_of_zero_le hn.1
      have hu2 := HUP.out (t + 1) c
      by_cases c2 : t < bs.length
      · skip
        have hrw2 := HRD2.out _ Hr.tail
        obtain ⟨g2, o2, d2, he⟩ := hrw2.open (by omega)
        simp only [Value.slice.injEq, true_and] at he
        obtain ⟨rfl, rfl⟩ := he
        have hc2 : wr.cell? ⟨g2, o2 + t, none⟩ = some (.int .u16 bs[t]) := hrw2.cell _ (by simp [List.getElem?_eq_getElem c2])
        have HC2 : Hid (∀ w6, Sep w6 [O] → w6.cell? ⟨g2, o2 + t, none⟩ = some (.int .u16 bs[t])) := Lib.hid fun w6 h6 => (HRD2.out w6 h6).cell _ (by simp [List.getElem?_eq_getElem c2])
        have hb := HW2.out _ (List.getElem_mem c2)
        have hgb : bs.getD t 0 = bs[t] := by rw [List.getD, List.getElem?_eq_getElem c2]; rfl
        clear hrw2
        generalize bs[t] = b at hc2 HC2 hb hgb
        have HGB := Lib.hid hgb
        clear hgb
        by_cases c3 : 0 < b
        · skip
          have hp := rowPiece_short HGN.out c2 HGB.out c3
          have hs := HSU.out t
          rw [hp] at hs
          have hv0 : 0 ≤ (m : Int) % b := Int.emod_nonneg _ (by omega)
          have hv1 : (m : Int) % b < b := Int.emod_lt_of_pos _ c3
          have hls := congrArg List.length hs
          rw [List.length_append, valBits_length] at hls
          have HS := Lib.hid hs
          have hlsI : ((U (t + 1)).length : Int) = ((U t).length : Int) + (widthN b : Int) := by omega
          have HF := Lib.hid (fun w6 (h : Sep w6 (Wr q (U t) :: [O])) => fixed_ok hv0 hv1 (by omega) (by omega) h)
          have HWC := Lib.hid (fun w6 => width_calls (b := b) (by omega) (by omega) (w := w6))
          clear hp hs hls
          rw [HS.out.symm] at HF
          clear HS
          generalize widthN b = k at hlsI HF HWC
          have hrem : (m : Int).tmod b = (m : Int) % b := Int.tmod_eq_emod_of_nonneg hn.1
          generalize (m : Int) % b = v at hv0 hv1 HF hrem
          go_wp2_with fail
          refine (HF.out _ Hr).mono ?_
          rintro e w3 ⟨rfl, H3⟩
          have hc3 := HC2.out _ H3.tail
          clear hc hc2 Hr
          go_wp2_with fail
          refine (HWC.out _).mono ?_
          rintro e w4 ⟨rfl, rfl⟩
          go_wp2_with fail
          go_roundg (ws.length - (t + 1))
          case rel => exact ⟨t + 1, Lib.hid ⟨by omega, rfl⟩, by go_num, by go_num, H3⟩
          case measure => omega
        · skip
          have hp := rowPiece_long HGN.out (by rw [HGB.out]; exact fun h => c3 h.2)
          have hs := HSU.out t
          rw [hp, Int.toNat_natCast] at hs
          have hls := congrArg List.length hs
          rw [List.length_append, longN_length] at hls
          have HS := Lib.hid hs
          have hlsI : ((U (t + 1)).length : Int) = ((U t).length : Int) + (sizeN m : Int) := by omega
          have HF := Lib.hid (fun w6 (h : Sep w6 (Wr q (U t) :: [O])) => nput_ok (n := m) (by omega) (by omega) h)
          have HWC := Lib.hid (fun w6 => size_calls (n := m) (by omega) (w := w6))
          clear hp hs hls
          rw [HS.out.symm] at HF
          clear HS
          generalize sizeN m = k at hlsI HF HWC
          go_wp2_with fail
          refine (HF.out _ Hr).mono ?_
          rintro e w3 ⟨rfl, H3⟩
          go_wp2_with fail
          refine (HWC.out _).mono ?_
          rintro e w4 ⟨rfl, rfl⟩
          go_wp2_with fail
          go_roundg (ws.length - (t + 1))
          case rel => exact ⟨t + 1, Lib.hid ⟨by omega, rfl⟩, by go_num, by go_num, H3⟩
          case measure => omega
      · skip
        have hp := rowPiece_long HGN.out (fun h => c2 h.1)
        have hs := HSU.out t
        rw [hp, Int.toNat_natCast] at hs
        have hls := congrArg List.length hs
        rw [List.length_append, longN_length] at hls
        have HS := Lib.hid hs
        have hlsI : ((U (t + 1)).length : Int) = ((U t).length : Int) + (sizeN m : Int) := by omega
        have HF := Lib.hid (fun w6 (h : Sep w6 (Wr q (U t) :: [O])) => nput_ok (n := m) (by omega) (by omega) h)
        have HWC := Lib.hid (fun w6 => size_calls (n := m) (by omega) (w := w6))
        clear hp hs hls
        rw [HS.out.symm] at HF
        clear HS
        generalize sizeN m = k at hlsI HF HWC
        go_wp2_with fail
        refine (HF.out _ Hr).mono ?_
        rintro e w3 ⟨rfl, H3⟩
        go_wp2_with fail
        refine (HWC.out _).mono ?_
        rintro e w4 ⟨rfl, rfl⟩
        go_wp2_with fail
        go_roundg (ws.length - (t + 1))
        case rel => exact ⟨t + 1, Lib.hid ⟨by omega, rfl⟩, by go_num, by go_num, H3⟩
        case measure => omega
    · have ht : t = ws.length := by omega
      subst ht
      have HLU : Hid (∃ L, U ws.length = L) := Lib.hid ⟨_, rfl⟩
      obtain ⟨L, hL⟩ := HLU.out
      have HL := Lib.hid hL
      rw [hL] at Hr hut HMO HDR
      rw [hL]
      clear HLU hL q2 HPL
      go_wp2_with fail
      refine (len_calls Hr).mono ?_
      rintro e w3 ⟨rfl, rfl⟩
      go_wp2_with fail
      refine (bytes_ok (by omega) Hr).mono ?_
      rintro e w3 ⟨v, rfl, H3⟩
      clear Hr
      obtain ⟨ra, rc, rfl⟩ := H3.row_form
      go_wp2_with fail
      refine (len_calls H3.tail).mono ?_
      rintro e w4 ⟨rfl, rfl⟩
      go_wp2_with fail
      refine (nr_ok (by omega) H3.rd H3).mono ?_
      rintro e w4 ⟨r, rfl, qr, rfl, H4⟩
      replace H4 := H4.swap.tail.swap.tail
      clear H3
      go_wp2_with fail
      go_loopg [12, 13, 14, 15, 16, 17, 95] ws.length (fun gk _ _ _ _ _ _ i wr => ∃ t : Nat, Hid (t ≤ ws.length ∧ gk = ws.length - t) ∧ i = .int .i64 (t : Int) ∧ Sep wr (Rdr qr L (U t).length :: [O]))
      case atStart => exact ⟨0, Lib.hid ⟨by omega, rfl⟩, rfl, by rw [HU0.out]; exact H4⟩
      case round =>
        clear H4
        obtain ⟨t, hq, rfl, Hr⟩ := hrel
        obtain ⟨q1, q2⟩ := hq.out
        clear hq
        have hmo := HMO.out t q1
        by_cases c : t < ws.length
        · skip
          have hrw := HRD.out _ Hr.tail
          obtain ⟨g, o, d, he⟩ := hrw.open (by omega)
          simp only [Value.slice.injEq, true_and] at he
          obtain ⟨rfl, rfl⟩ := he
          have hc : wr.cell? ⟨g, o + t, none⟩ = some (.int .u32 ws[t]) := hrw.cell _ (by simp [List.getElem?_eq_getElem c])
          have HC : Hid (∀ w6, Sep w6 [O] → w6.cell? ⟨g, o + t, none⟩ = some (.int .u32 ws[t])) := Lib.hid fun w6 h6 => (HRD.out w6 h6).cell _ (by simp [List.getElem?_eq_getElem c])
          have hn := HW.out _ (List.getElem_mem c)
          have hgn : ws.getD t 0 = ws[t] := by rw [List.getD, List.getElem?_eq_getElem c]; rfl
          clear hrw
          generalize ws[t] = n at hc HC hn hgn
          have HGN := Lib.hid hgn
          clear hgn
          obtain ⟨m, rfl⟩ := Int.eq_ofNat_of_zero_le hn.1
          have hu2 := HUP.out (t + 1) c
          by_cases c2 : t < bs.length
          · skip
            have hrw2 := HRD2.out _ Hr.tail
            obtain ⟨g2, o2, d2, he⟩ := hrw2.open (by omega)
            simp only [Value.slice.injEq, true_and] at he
            obtain ⟨rfl, rfl⟩ := he
            have hc2 : wr.cell? ⟨g2, o2 + t, none⟩ = some (.int .u16 bs[t]) := hrw2.cell _ (by simp [List.getElem?_eq_getElem c2])
            have HC2 : Hid (∀ w6, Sep w6 [O] → w6.cell? ⟨g2, o2 + t, none⟩ = some (.int .u16 bs[t])) := Lib.hid fun w6 h6 => (HRD2.out w6 h6).cell _ (by simp [List.getElem?_eq_getElem c2])
            have hb := HW2.out _ (List.getElem_mem c2)
            have hgb : bs.getD t 0 = bs[t] := by rw [List.getD, List.getElem?_eq_getElem c2]; rfl
            clear hrw2
            generalize bs[t] = b at hc2 HC2 hb hgb
            have HGB := Lib.hid hgb
            clear hgb
            by_cases c3 : 0 < b
            · skip
              have hp := rowPiece_short HGN.out c2 HGB.out c3
              have hs := HSU.out t
              have hdr := HDR.out t c
              rw [hp] at hs hdr
              have hv0 : 0 ≤ (m : Int) % b := Int.emod_nonneg _ (by omega)
              have hv1 : (m : Int) % b < b := Int.emod_lt_of_pos _ c3
              have hls := congrArg List.length hs
              rw [List.length_append, valBits_length] at hls
              have huv := unfix_val (i := (U t).length) c3 (by omega) (by rw [Int.toNat_of_nonneg hv0]; exact hv1) hmo hdr
              rw [Int.toNat_of_nonneg hv0, ← hls] at huv
              have hF : ∀ w6, Sep w6 (Rdr qr L (U t).length :: [O]) → _ := fun w6 (h : Sep w6 (Rdr qr L (U t).length :: [O])) => unfixed_all (b := b) (by omega) hmo (by omega) h
              rw [huv] at hF
              have HF := Lib.hid hF
              clear hp hs hls hdr huv hF
              have hrem : (m : Int).tmod b = (m : Int) % b := Int.tmod_eq_emod_of_nonneg hn.1
              generalize (m : Int) % b = v at hv0 hv1 HF hrem
              go_wp2_with fail
              refine (HF.out _ Hr).mono ?_
              rintro e w3 ⟨rfl, H3⟩
              have hc3 := HC2.out _ H3.tail
              clear hc hc2 Hr
              go_wp2_with fail
              go_roundg (ws.length - (t + 1))
              case rel => exact ⟨t + 1, Lib.hid ⟨by omega, rfl⟩, by go_num, H3⟩
              case measure => omega
            · skip
              have hp := rowPiece_long HGN.out (by rw [HGB.out]; exact fun h => c3 h.2)
              have hs := HSU.out t
              have hdr := HDR.out t c
              rw [hp, Int.toNat_natCast] at hs hdr
              have hls := congrArg List.length hs
              rw [List.length_append, longN_length] at hls
              have hg := getN_long (n := m) (by omega) (L.drop (U (t + 1)).length)
              rw [← hdr] at hg
              have hF : ∀ w6, Sep w6 (Rdr qr L (U t).length :: [O]) → _ := fun w6 (h : Sep w6 (Rdr qr L (U t).length :: [O])) => nget_all hmo (by omega) h
              rw [hg] at hF
              have HF := Lib.hid hF
              have HLS := Lib.hid hls
              clear hp hs hls hdr hg hF
              go_wp2_with fail
              refine (HF.out _ Hr).mono ?_
              rintro e w3 ⟨rfl, j, j1, j2, H3⟩
              have hj : j = (U (t + 1)).length := by rw [HLS.out]; exact j2 trivial
              subst hj
              clear j2 Hr
              go_wp2_with fail
              go_roundg (ws.length - (t + 1))
              case rel => exact ⟨t + 1, Lib.hid ⟨by omega, rfl⟩, by go_num, H3⟩
              case measure => omega
          · skip
            have hp := rowPiece_long HGN.out (fun h => c2 h.1)
            have hs := HSU.out t
            have hdr := HDR.out t c
            rw [hp, Int.toNat_natCast] at hs hdr
            have hls := congrArg List.length hs
            rw [List.length_append, longN_length] at hls
            have hg := getN_long (n := m) (by omega) (L.drop (U (t + 1)).length)
            rw [← hdr] at hg
            have hF : ∀ w6, Sep w6 (Rdr qr L (U t).length :: [O]) → _ := fun w6 (h : Sep w6 (Rdr qr L (U t).length :: [O])) => nget_all hmo (by omega) h
            rw [hg] at hF
            have HF := Lib.hid hF
            have HLS := Lib.hid hls
            clear hp hs hls hdr hg hF
            go_wp2_with fail
            refine (HF.out _ Hr).mono ?_
            rintro e w3 ⟨rfl, j, j1, j2, H3⟩
            have hj : j = (U (t + 1)).length := by rw [HLS.out]; exact j2 trivial
            subst hj
            clear j2 Hr
            go_wp2_with fail
            go_roundg (ws.length - (t + 1))
            case rel => exact ⟨t + 1, Lib.hid ⟨by omega, rfl⟩, by go_num, H3⟩
            case measure => omega
        · have ht : t = ws.length := by omega
          subst ht
          rw [HL.out] at Hr
          go_wp2_with fail
          refine (left_ok (Nat.le_refl _) (by omega) Hr).mono ?_
          rintro e w5 ⟨rfl, n1, rfl⟩
          go_wp2_with fail
          go_ret
          subst HB
          exact ⟨rfl, (Hr.drewN n1).tail.below⟩

end Go.Proofs.Ytoejgfbeemokcaa
