import Derived.Test.YtglinpclcmmnbaaLaw3
namespace Go.Proofs.Ytglinpclcmmnbaa
open Go.RowKit

theorem lowI_in {cs : List Int} {t : Nat} (h : t < cs.length) : lowI cs t = isum (cs.take t) := by unfold lowI; rw [if_pos (by omega), Int.toNat_natCast]
theorem countI_in {cs : List Int} {t : Nat} (h : t < cs.length) : countI cs t = cs[t] := by unfold countI; rw [if_pos (by omega), Int.toNat_natCast, getD_get h]
theorem findI_in {cs : List Int} {t : Nat} {x : Int} (hv : Vt cs) (h : t < cs.length) (h1 : isum (cs.take t) ≤ x) (h2 : x < isum (cs.take t) + cs[t]) : findI cs x = t ∧ decide (0 ≤ x ∧ x < isum cs) = true := by
  have hs := isum_take_succ h
  have b0 := isum_take_nonneg hv.2.2.1 t
  have b1 := isum_take_le hv.2.2.1 (t + 1)
  have hin := (findOf_in (x := x) hv.2.2.1 h).2 ⟨by omega, .inr h1⟩
  have hx : 0 ≤ x ∧ x < isum cs := ⟨by omega, by omega⟩
  unfold findI
  rw [if_pos hx]
  exact ⟨hin, decide_eq_true hx⟩
theorem findI_out {cs : List Int} {x : Int} (hv : Vt cs) (h0 : 0 ≤ x) (h1 : x < isum cs) : ∃ t : Nat, ∃ h : t < cs.length, findI cs x = t ∧ isum (cs.take t) ≤ x ∧ x < isum (cs.take t) + cs[t] := by
  have hlt := findOf_lt h1 h0
  refine ⟨findOf cs x, hlt, by unfold findI; rw [if_pos ⟨h0, h1⟩], ?_⟩
  have hin := (findOf_in (x := x) hv.2.2.1 hlt).1 rfl
  have hs := isum_take_succ hlt
  refine ⟨?_, by omega⟩
  rcases hin.2 with h | h
  · rw [h]; simpa [isum] using h0
  · exact h

set_option maxRecDepth 100000 in
set_option maxHeartbeats 2000000 in
theorem law_TableFinds (a : Option Addr) (len cap : Nat) (z : List Int) {w : World} (hrow : IsRow .i64 w a len cap z) (a2 : Option Addr) (len2 cap2 : Nat) (z2 : List Int) (hrow2 : IsRow .i64 w a2 len2 cap2 z2) (x : Int) (_wx : (Lit.int .i64 x).wf = true) :
    Calls Try.prog 5 #[.slice a len cap, .slice a2 len2 cap2, .int .i64 x] w fun e w' => e = .returned (.bool true) ∧ Below w.heap.size w w' := by
  obtain ⟨xs, hl, -, hrd, -⟩ := hrow.ints
  obtain ⟨bs, hl2, -, hrd2, -⟩ := hrow2.ints
  subst hl
  subst hl2
  clear hrow hrow2 _wx
  have H := Sep.start w
  have HRD : Hid (Reads [HP.old w.heap.size w] (.slice a xs.length cap) xs.length 1 (xs.map iv)) := Lib.hid (Reads.old hrd)
  have HRD2 : Hid (Reads [HP.old w.heap.size w] (.slice a2 bs.length cap2) bs.length 1 (bs.map iv)) := Lib.hid (Reads.old hrd2)
  clear hrd hrd2
  generalize hB : HP.old w.heap.size w = O at H HRD HRD2
  have HB := Lib.hid hB; clear hB
  by_cases hfew : 40 < xs.length
  · go_enter Try.func5, Try.ntmps5
    go_wp2_with fail
    refine (awake3 H).mono ?_
    rintro e w1 ⟨rfl, H1⟩
    go_wp2_with fail
    go_ret
    subst HB
    exact ⟨rfl, H1.below⟩
  by_cases hfew2 : 40 < bs.length
  · go_enter Try.func5, Try.ntmps5
    go_wp2_with fail
    refine (awake3 H).mono ?_
    rintro e w1 ⟨rfl, H1⟩
    go_wp2_with fail
    go_ret
    subst HB
    exact ⟨rfl, H1.below⟩
  go_enter Try.func5, Try.ntmps5
  go_wp2_with fail
  refine (awake3 H).mono ?_
  rintro e w1 ⟨rfl, H1⟩
  clear H
  go_wp2_with fail
  refine (new_calls HRD.out H1).mono ?_
  rintro e w2 ⟨r, rfl, ⟨hne, rfl, H2⟩ | ⟨he, b, rfl, H2⟩⟩
  · have hne2 : ((tabErr xs : Int) != 0) = true := by rw [bne_iff_ne]; omega
    generalize tabErr xs = t at hne2 ⊢
    clear hne
    go_wp2_with fail
    go_ret
    subst HB
    exact ⟨rfl, H2.below⟩
  have HV0 := Lib.hid (tabErr_ok he)
  clear he H1
  go_wp2_with fail
  go_loopg [9] bs.length (fun gk i wr => ∃ t : Nat, ∃ cs : List Int, Hid (t ≤ bs.length ∧ gk = bs.length - t ∧ cs.length = xs.length) ∧ Hid (Vt cs) ∧ i = .int .i64 (t : Int) ∧ Sep wr (Tbl b cs :: [O]))
  case atStart => exact ⟨0, xs, Lib.hid ⟨by omega, rfl, rfl⟩, HV0, rfl, H2⟩
  case round =>
    clear H2
    obtain ⟨t, cs, hq, HV, rfl, Hr⟩ := hrel
    obtain ⟨q1, q2, q3⟩ := hq.out
    clear hq
    by_cases c : t < bs.length
    · have hrw := HRD2.out _ Hr.tail
      obtain ⟨g, o, d, he⟩ := hrw.open (by omega)
      simp only [Value.slice.injEq, true_and] at he
      obtain ⟨rfl, rfl⟩ := he
      have hc : wr.cell? ⟨g, o + t, none⟩ = some (.int .i64 bs[t]) := hrw.cell t (iv_get c)
      clear hrw
      generalize bs[t] = y at hc
      go_wp2_with fail
      refine (bump_calls HV.out Hr).mono ?_
      rintro e w3 ⟨rfl, H3⟩
      have HV2 := Lib.hid (bumpI_ok (i := y) HV.out)
      have hl := bumpI_length cs y
      have hl2 : (bumpI cs y).length = xs.length := by omega
      clear hl
      generalize bumpI cs y = ds at HV2 hl2 H3
      generalize bumpE cs y = f
      go_wp2_with fail
      go_roundg (bs.length - (t + 1))
      case rel => exact ⟨t + 1, ds, Lib.hid ⟨by omega, rfl, hl2⟩, HV2, by go_num, H3⟩
      case measure => omega
    · clear HV0
      go_wp2_with fail
      go_loopg [10, 11, 12, 13, 14] xs.length (fun gk i _ _ _ _ wr => ∃ t : Nat, Hid (t ≤ xs.length ∧ gk = xs.length - t) ∧ i = .int .i64 (t : Int) ∧ Sep wr (Tbl b cs :: [O]))
      case atStart => exact ⟨0, Lib.hid ⟨by omega, rfl⟩, rfl, Hr⟩
      case round =>
        clear Hr
        obtain ⟨t, hq, rfl, Hr⟩ := hrel
        obtain ⟨q1, q2⟩ := hq.out
        clear hq
        by_cases c : t < xs.length
        · have ct : t < cs.length := by omega
          have hlo := lowI_in ct
          have hco := countI_in ct
          have hc1 := HV.out.2.2.1 _ (List.getElem_mem ct)
          have b0 := isum_take_nonneg HV.out.2.2.1 t
          have b1 := isum_take_le HV.out.2.2.1 (t + 1)
          have hs := isum_take_succ ct
          have b2 := HV.out.2.2.2
          have hf1 := findI_in (x := isum (cs.take t)) HV.out ct (by omega) (by omega)
          have hf2 := findI_in (x := isum (cs.take t) + cs[t] - 1) HV.out ct (by omega) (by omega)
          have hlo2 : t + 1 < cs.length → lowI cs ((t : Int) + 1) = isum (cs.take t) + cs[t] := fun h => by
            show lowI cs ((t + 1 : Nat) : Int) = _
            rw [lowI_in h, hs]
          have hlo3 : ¬ t + 1 < cs.length → lowI cs ((t : Int) + 1) = 0 := fun h => by unfold lowI; rw [if_neg (by omega)]
          have HLOW : Hid (∀ w1, Sep w1 (Tbl b cs :: [O]) → Calls Try.prog 24 #[.pointer (some ⟨b, 0, none⟩), .int .i64 (t : Int)] w1 fun e w' => e = .returned (.int .i64 (isum (cs.take t))) ∧ w1 = w') := Lib.hid fun w1 h => by have := low_calls (i := t) HV.out h; rwa [hlo] at this
          have HCNT : Hid (∀ w1, Sep w1 (Tbl b cs :: [O]) → Calls Try.prog 26 #[.pointer (some ⟨b, 0, none⟩), .int .i64 (t : Int)] w1 fun e w' => e = .returned (.int .i64 cs[t]) ∧ w1 = w') := Lib.hid fun w1 h => by have := count_calls (i := t) h; rwa [hco] at this
          have HF1 : Hid (∀ w1, Sep w1 (Tbl b cs :: [O]) → Calls Try.prog 21 #[.pointer (some ⟨b, 0, none⟩), .int .i64 (isum (cs.take t))] w1 fun e w' => e = .returned (.tuple #[.int .i64 (t : Int), .bool true]) ∧ Sep w' (Tbl b cs :: [O])) := Lib.hid fun w1 h => by have := find_calls (x := isum (cs.take t)) HV.out h; rwa [hf1.1, hf1.2] at this
          have HF2 : Hid (∀ w1, Sep w1 (Tbl b cs :: [O]) → Calls Try.prog 21 #[.pointer (some ⟨b, 0, none⟩), .int .i64 (isum (cs.take t) + cs[t] - 1)] w1 fun e w' => e = .returned (.tuple #[.int .i64 (t : Int), .bool true]) ∧ Sep w' (Tbl b cs :: [O])) := Lib.hid fun w1 h => by have := find_calls (x := isum (cs.take t) + cs[t] - 1) HV.out h; rwa [hf2.1, hf2.2] at this
          have HLO2 := Lib.hid hlo2
          have HLO3 := Lib.hid hlo3
          have b3 : isum (cs.take t) + cs[t] ≤ 65536 := by omega
          clear hlo hco hf1 hf2 hlo2 hlo3 hs b1 b2
          generalize isum (cs.take t) = X at *
          generalize cs[t] = y at *
          go_wp2_with fail
          refine (HLOW.out _ Hr).mono ?_
          rintro e w3 ⟨rfl, rfl⟩
          go_wp2_with fail
          refine (HF1.out _ Hr).mono ?_
          rintro e w3 ⟨rfl, H3⟩
          clear Hr
          go_wp2_with fail
          refine (HLOW.out _ H3).mono ?_
          rintro e w4 ⟨rfl, rfl⟩
          go_wp2_with fail
          refine (HCNT.out _ H3).mono ?_
          rintro e w4 ⟨rfl, rfl⟩
          go_wp2_with fail
          refine (HF2.out _ H3).mono ?_
          rintro e w4 ⟨rfl, H4⟩
          clear H3
          go_wp2_with fail
          refine (low_calls HV.out H4).mono ?_
          rintro e w5 ⟨rfl, rfl⟩
          by_cases cl : t + 1 < cs.length
          · rw [HLO2.out cl]
            have cl2 : (t : Int) + 1 < (xs.length : Int) := by omega
            go_wp2_with fail
            refine (HLOW.out _ H4).mono ?_
            rintro e w5 ⟨rfl, rfl⟩
            go_wp2_with fail
            refine (HCNT.out _ H4).mono ?_
            rintro e w5 ⟨rfl, rfl⟩
            go_wp2_with fail
            go_roundg (xs.length - (t + 1))
            case rel => exact ⟨t + 1, Lib.hid ⟨by omega, rfl⟩, by go_num, H4⟩
            case measure => omega
          · rw [HLO3.out cl]
            have cl2 : ¬ (t : Int) + 1 < (xs.length : Int) := by omega
            have hne : ((0 : Int) != X + y) = true := by rw [bne_iff_ne]; omega
            go_wp2_with fail
            refine (HLOW.out _ H4).mono ?_
            rintro e w5 ⟨rfl, rfl⟩
            go_wp2_with fail
            refine (HCNT.out _ H4).mono ?_
            rintro e w5 ⟨rfl, rfl⟩
            go_wp2_with fail
            go_roundg (xs.length - (t + 1))
            case rel => exact ⟨t + 1, Lib.hid ⟨by omega, rfl⟩, by go_num, H4⟩
            case measure => omega
        · by_cases hx : 0 ≤ x ∧ x < isum cs
          · obtain ⟨u, hu, f1, f2, f3⟩ := findI_out HV.out hx.1 hx.2
            have hd : decide (0 ≤ x ∧ x < isum cs) = true := decide_eq_true hx
            have hF : ∀ w1, Sep w1 (Tbl b cs :: [O]) → Calls Try.prog 21 #[.pointer (some ⟨b, 0, none⟩), .int .i64 x] w1 fun e w' => e = .returned (.tuple #[.int .i64 (u : Int), .bool true]) ∧ Sep w' (Tbl b cs :: [O]) := fun w1 h => by have := find_calls (x := x) HV.out h; rwa [f1, hd] at this
            have hL : ∀ w1, Sep w1 (Tbl b cs :: [O]) → Calls Try.prog 24 #[.pointer (some ⟨b, 0, none⟩), .int .i64 (u : Int)] w1 fun e w' => e = .returned (.int .i64 (isum (cs.take u))) ∧ w1 = w' := fun w1 h => by have := low_calls (i := u) HV.out h; rwa [lowI_in hu] at this
            have hC : ∀ w1, Sep w1 (Tbl b cs :: [O]) → Calls Try.prog 26 #[.pointer (some ⟨b, 0, none⟩), .int .i64 (u : Int)] w1 fun e w' => e = .returned (.int .i64 cs[u]) ∧ w1 = w' := fun w1 h => by have := count_calls (i := u) h; rwa [countI_in hu] at this
            have HF := Lib.hid hF
            have HL := Lib.hid hL
            have HC := Lib.hid hC
            have b0 := isum_take_nonneg HV.out.2.2.1 u
            have hs := isum_take_succ hu
            have b1 := isum_take_le HV.out.2.2.1 (u + 1)
            have b2 := HV.out.2.2.2
            have b3 : isum (cs.take u) + cs[u] ≤ 65536 := by omega
            have b4 := HV.out.2.2.1 _ (List.getElem_mem hu)
            have hx1 := hx.1
            have hx2 : ¬ isum cs ≤ x := by omega
            clear hF hL hC f1 hd hs b1 hx
            generalize isum (cs.take u) = X at *
            generalize cs[u] = y at *
            go_wp2_with fail
            refine (HF.out _ Hr).mono ?_
            rintro e w3 ⟨rfl, H3⟩
            clear Hr
            go_wp2_with fail
            refine (total_calls H3).mono ?_
            rintro e w4 ⟨rfl, rfl⟩
            go_wp2_with fail
            refine (HL.out _ H3).mono ?_
            rintro e w4 ⟨rfl, rfl⟩
            go_wp2_with fail
            refine (HL.out _ H3).mono ?_
            rintro e w4 ⟨rfl, rfl⟩
            go_wp2_with fail
            refine (HC.out _ H3).mono ?_
            rintro e w4 ⟨rfl, rfl⟩
            go_wp2_with fail
            go_ret
            subst HB
            exact ⟨rfl, H3.tail.below⟩
          · have hd : decide (0 ≤ x ∧ x < isum cs) = false := decide_eq_false hx
            have hf : findI cs x = 0 := by unfold findI; rw [if_neg hx]
            have hF : ∀ w1, Sep w1 (Tbl b cs :: [O]) → Calls Try.prog 21 #[.pointer (some ⟨b, 0, none⟩), .int .i64 x] w1 fun e w' => e = .returned (.tuple #[.int .i64 0, .bool false]) ∧ Sep w' (Tbl b cs :: [O]) := fun w1 h => by have := find_calls (x := x) HV.out h; rwa [hf, hd] at this
            have HF := Lib.hid hF
            clear hF hd hf
            by_cases h0 : x < 0
            · go_wp2_with fail
              refine (HF.out _ Hr).mono ?_
              rintro e w3 ⟨rfl, H3⟩
              go_wp2_with fail
              go_ret
              subst HB
              exact ⟨rfl, H3.tail.below⟩
            · have h1 : isum cs ≤ x := by omega
              clear hx
              go_wp2_with fail
              refine (HF.out _ Hr).mono ?_
              rintro e w3 ⟨rfl, H3⟩
              go_wp2_with fail
              refine (total_calls H3).mono ?_
              rintro e w4 ⟨rfl, rfl⟩
              go_wp2_with fail
              go_ret
              subst HB
              exact ⟨rfl, H3.tail.below⟩

end Go.Proofs.Ytglinpclcmmnbaa
