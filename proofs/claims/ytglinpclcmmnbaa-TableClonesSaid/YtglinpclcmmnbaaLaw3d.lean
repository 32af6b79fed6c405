import Derived.Test.YtglinpclcmmnbaaLaw3c
namespace Go.Proofs.Ytglinpclcmmnbaa
open Go.RowKit

set_option maxRecDepth 100000 in
set_option maxHeartbeats 8000000 in
theorem law_TableClones (a : Option Addr) (len cap : Nat) (z : List Int) {w : World} (hrow : IsRow .i64 w a len cap z) (a2 : Option Addr) (len2 cap2 : Nat) (z2 : List Int) (hrow2 : IsRow .i64 w a2 len2 cap2 z2) (a3 : Option Addr) (len3 cap3 : Nat) (z3 : List Int) (hrow3 : IsRow .i64 w a3 len3 cap3 z3) :
    Calls Try.prog 9 #[.slice a len cap, .slice a2 len2 cap2, .slice a3 len3 cap3] w fun e w' => e = .returned (.bool true) ∧ Below w.heap.size w w' := by
  obtain ⟨xs, hl, -, hrd, -⟩ := hrow.ints
  obtain ⟨bs, hl2, -, hrd2, -⟩ := hrow2.ints
  obtain ⟨es, hl3, -, hrd3, -⟩ := hrow3.ints
  subst hl
  subst hl2
  subst hl3
  clear hrow hrow2 hrow3
  have H := Sep.start w
  have HRD : Hid (Reads [HP.old w.heap.size w] (.slice a xs.length cap) xs.length 1 (xs.map iv)) := Lib.hid (Reads.old hrd)
  have HRD2 : Hid (Reads [HP.old w.heap.size w] (.slice a2 bs.length cap2) bs.length 1 (bs.map iv)) := Lib.hid (Reads.old hrd2)
  have HRD3 : Hid (Reads [HP.old w.heap.size w] (.slice a3 es.length cap3) es.length 1 (es.map iv)) := Lib.hid (Reads.old hrd3)
  clear hrd hrd2 hrd3
  generalize hB : HP.old w.heap.size w = O at H HRD HRD2 HRD3
  have HB := Lib.hid hB; clear hB
  by_cases hf1 : 40 < xs.length
  · go_enter Try.func9, Try.ntmps9
    go_wp2_with fail
    refine (awake3 H).mono ?_
    rintro e w1 ⟨rfl, H1⟩
    go_wp2_with fail
    go_ret
    subst HB
    exact ⟨rfl, H1.below⟩
  by_cases hf2 : 40 < bs.length
  · go_enter Try.func9, Try.ntmps9
    go_wp2_with fail
    refine (awake3 H).mono ?_
    rintro e w1 ⟨rfl, H1⟩
    go_wp2_with fail
    go_ret
    subst HB
    exact ⟨rfl, H1.below⟩
  by_cases hf3 : 40 < es.length
  · go_enter Try.func9, Try.ntmps9
    go_wp2_with fail
    refine (awake3 H).mono ?_
    rintro e w1 ⟨rfl, H1⟩
    go_wp2_with fail
    go_ret
    subst HB
    exact ⟨rfl, H1.below⟩
  go_enter Try.func9, Try.ntmps9
  go_wp2_with fail
  refine (awake3 H).mono ?_
  rintro e w1 ⟨rfl, H1⟩
  clear H
  go_wp2_with fail
  refine (rcheck_calls (by omega) (HRD.out _ H1)).mono ?_
  rintro e w3 ⟨rfl, rfl⟩
  by_cases he : tabErr xs = 0
  · have hv := tabErr_ok he
    rw [he]
    go_wp2_with fail
    refine (new_calls HRD.out H1).mono ?_
    rintro e w2 ⟨r, rfl, ⟨hne, -, -⟩ | ⟨-, b, rfl, H2⟩⟩
    · exact absurd he hne
    have HV := Lib.hid hv
    clear hv he H1
    go_wp2_with fail
    go_loopg [9, 10] bs.length (fun gk l i wr => ∃ t : Nat, ∃ cs : List Int, ∃ S : List HP, ∃ lv : Value, lv = l ∧ Hid (t ≤ bs.length ∧ gk = bs.length - t ∧ cs.length = xs.length) ∧ Hid (Vt cs ∧ Reads (S ++ [O]) lv cs.length 1 (cs.map iv)) ∧ i = .int .i64 (t : Int) ∧ Sep wr (Tbl b cs :: (S ++ [O])))
    case atStart => exact ⟨0, xs, [], _, rfl, Lib.hid ⟨by omega, rfl, rfl⟩, Lib.hid ⟨HV.out, HRD.out⟩, rfl, H2⟩
    case round =>
      clear H2
      obtain ⟨t, cs, S, lv, rfl, hq, hh, rfl, Hr⟩ := hrel
      obtain ⟨q1, q2, q3⟩ := hq.out
      clear hq
      obtain ⟨hv, hR⟩ := hh.out
      have HVT := Lib.hid hv
      have HRL := Lib.hid hR
      clear hv hR hh
      by_cases c : t < bs.length
      · have hrw := HRD2.out _ (Sep.drop_left Hr.tail)
        obtain ⟨g, o, d, he⟩ := hrw.open (by omega)
        simp only [Value.slice.injEq, true_and] at he
        obtain ⟨rfl, rfl⟩ := he
        have hc : wr.cell? ⟨g, o + t, none⟩ = some (.int .i64 bs[t]) := hrw.cell t (iv_get c)
        have HC : Hid (∀ w6, Sep w6 [O] → w6.cell? ⟨g, o + t, none⟩ = some (.int .i64 bs[t])) := Lib.hid fun w6 h6 => (HRD2.out w6 h6).cell t (iv_get c)
        clear hrw
        generalize bs[t] = y at hc HC
        go_wp2_with fail
        refine (bump_calls HVT.out Hr).mono ?_
        rintro e w2 ⟨rfl, H2⟩
        clear Hr hc
        have hc := HC.out _ (Sep.drop_left H2.tail)
        by_cases hin : 0 ≤ y ∧ y < (cs.length : Int)
        · obtain ⟨k, rfl⟩ := Int.eq_ofNat_of_zero_le hin.1
          have hk : k < cs.length := by omega
          have e1 : bumpI cs k = bumpOf cs k := by unfold bumpI; rw [if_pos hin, Int.toNat_natCast]
          have e2 : bumpE cs k = 0 := by unfold bumpE; rw [if_pos hin]
          rw [e1] at H2
          rw [e2]
          clear e1 e2 hin
          go_wp2_with fail
          refine (rbump_calls HVT.out hk HRL.out.cons H2).mono ?_
          rintro e w3 ⟨r, rfl, H3⟩
          clear H2
          replace H3 := H3.swap
          have hbl := bumpOf_length cs k
          rw [← hbl] at H3
          have hvb := bumpOf_ok HVT.out hk
          have HVB := Lib.hid hvb
          have q3' : (bumpOf cs k).length = xs.length := by omega
          generalize bumpOf cs k = ds at H3 HVB q3'
          clear hbl hvb hc
          go_wp2_with fail
          go_roundg (bs.length - (t + 1))
          case rel => exact ⟨t + 1, ds, HP.row 3 1 r ds.length (ds.map iv) :: S, r, rfl, Lib.hid ⟨by omega, rfl, q3'⟩, Lib.hid ⟨HVB.out, Reads.row⟩, by go_num, H3⟩
          case measure => omega
        · have e1 : bumpI cs y = cs := by unfold bumpI; rw [if_neg hin]
          have e2 : bumpE cs y = 2 := by unfold bumpE; rw [if_neg hin]
          rw [e1] at H2
          rw [e2]
          clear e1 e2
          go_wp2_with fail
          go_roundg (bs.length - (t + 1))
          case rel => exact ⟨t + 1, cs, S, lv, rfl, Lib.hid ⟨by omega, rfl, q3⟩, Lib.hid ⟨HVT.out, HRL.out⟩, by go_num, H2⟩
          case measure => omega
      · go_wp2_with fail
        refine (clone_calls HVT.out Hr).mono ?_
        rintro e w3 ⟨r, rfl, c1, rfl, H3⟩
        clear Hr
        go_wp2_with fail
        refine (same_calls HVT.out (HRL.out _ H3.tail.tail) H3).mono ?_
        rintro e w4 ⟨rfl, n4, rfl⟩
        have H4 := H3.drewN n4
        generalize w3.drewN n4 = w4 at H4 ⊢
        clear H3
        go_wp2_with fail
        go_loopg [12, 13] es.length (fun gk m i wr => ∃ t : Nat, ∃ ms : List Int, ∃ S2 : List HP, Hid (t ≤ es.length ∧ gk = es.length - t) ∧ Hid (Vt ms ∧ Reads (S2 ++ [O]) m ms.length 1 (ms.map iv) ∧ Reads (S2 ++ [O]) lv cs.length 1 (cs.map iv)) ∧ i = .int .i64 (t : Int) ∧ Sep wr (Tbl c1 ms :: Tbl b cs :: (S2 ++ [O])))
        case atStart => exact ⟨0, cs, S, Lib.hid ⟨by omega, rfl⟩, Lib.hid ⟨HVT.out, HRL.out, HRL.out⟩, rfl, H4⟩
        case round =>
          clear H4
          obtain ⟨t, ms, S2, hq, hh, rfl, Hr⟩ := hrel
          obtain ⟨q4, q5⟩ := hq.out
          clear hq
          obtain ⟨hv, hR, hR2⟩ := hh.out
          have HVM := Lib.hid hv
          have HRM := Lib.hid hR
          have HRL2 := Lib.hid hR2
          clear hv hR hh hR2
          by_cases c2 : t < es.length
          · have hrw := HRD3.out _ (Sep.drop_left Hr.tail.tail)
            obtain ⟨g, o, d, he⟩ := hrw.open (by omega)
            simp only [Value.slice.injEq, true_and] at he
            obtain ⟨rfl, rfl⟩ := he
            have hc : wr.cell? ⟨g, o + t, none⟩ = some (.int .i64 es[t]) := hrw.cell t (iv_get c2)
            have HC : Hid (∀ w6, Sep w6 [O] → w6.cell? ⟨g, o + t, none⟩ = some (.int .i64 es[t])) := Lib.hid fun w6 h6 => (HRD3.out w6 h6).cell t (iv_get c2)
            clear hrw
            generalize es[t] = y at hc HC
            go_wp2_with fail
            refine (bump_calls HVM.out Hr).mono ?_
            rintro e w2 ⟨rfl, H2⟩
            clear Hr hc
            have hc := HC.out _ (Sep.drop_left H2.tail.tail)
            by_cases hin : 0 ≤ y ∧ y < (ms.length : Int)
            · obtain ⟨k, rfl⟩ := Int.eq_ofNat_of_zero_le hin.1
              have hk : k < ms.length := by omega
              have e1 : bumpI ms k = bumpOf ms k := by unfold bumpI; rw [if_pos hin, Int.toNat_natCast]
              have e2 : bumpE ms k = 0 := by unfold bumpE; rw [if_pos hin]
              rw [e1] at H2
              rw [e2]
              clear e1 e2 hin
              go_wp2_with fail
              refine (rbump_calls HVM.out hk HRM.out.cons.cons H2).mono ?_
              rintro e w3 ⟨r, rfl, H3⟩
              clear H2
              replace H3 := H3.mid2
              have hbl := bumpOf_length ms k
              rw [← hbl] at H3
              have hvb := bumpOf_ok HVM.out hk
              have HVB := Lib.hid hvb
              generalize bumpOf ms k = ds at H3 HVB
              clear hbl hvb hc
              go_wp2_with fail
              go_roundg (es.length - (t + 1))
              case rel => exact ⟨t + 1, ds, HP.row 3 1 r ds.length (ds.map iv) :: S2, Lib.hid ⟨by omega, rfl⟩, Lib.hid ⟨HVB.out, Reads.row, HRL2.out.cons⟩, by go_num, H3⟩
              case measure => omega
            · have e1 : bumpI ms y = ms := by unfold bumpI; rw [if_neg hin]
              have e2 : bumpE ms y = 2 := by unfold bumpE; rw [if_neg hin]
              rw [e1] at H2
              rw [e2]
              clear e1 e2
              go_wp2_with fail
              go_roundg (es.length - (t + 1))
              case rel => exact ⟨t + 1, ms, S2, Lib.hid ⟨by omega, rfl⟩, Lib.hid ⟨HVM.out, HRM.out, HRL2.out⟩, by go_num, H2⟩
              case measure => omega
          · go_wp2_with fail
            refine (same_calls HVT.out (HRL2.out _ Hr.tail.tail) Hr.swap).mono ?_
            rintro e w4 ⟨rfl, n4, rfl⟩
            have H4 := Hr.drewN n4
            generalize wr.drewN n4 = w4 at H4 ⊢
            clear Hr
            go_wp2_with fail
            refine (same_calls HVM.out (HRM.out _ H4.tail.tail) H4).mono ?_
            rintro e w5 ⟨rfl, n5, rfl⟩
            have H5 := H4.drewN n5
            generalize w4.drewN n5 = w5 at H5 ⊢
            go_wp2_with fail
            go_ret
            subst HB
            exact ⟨rfl, H5.tail.tail.below_of⟩
  · have hne : ((tabErr xs : Int) != 0) = true := by rw [bne_iff_ne]; omega
    generalize tabErr xs = t at hne ⊢
    clear he
    go_wp2_with fail
    go_ret
    subst HB
    exact ⟨rfl, H1.below⟩

end Go.Proofs.Ytglinpclcmmnbaa
