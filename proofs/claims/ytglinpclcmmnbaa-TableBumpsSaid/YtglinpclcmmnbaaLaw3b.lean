import Derived.Test.YtglinpclcmmnbaaLaw3
namespace Go.Proofs.Ytglinpclcmmnbaa
open Go.RowKit

set_option maxRecDepth 100000 in
set_option maxHeartbeats 1000000 in
theorem law_TableBumps (a : Option Addr) (len cap : Nat) (z : List Int) {w : World} (hrow : IsRow .i64 w a len cap z) (a2 : Option Addr) (len2 cap2 : Nat) (z2 : List Int) (hrow2 : IsRow .i64 w a2 len2 cap2 z2) :
    Calls Try.prog 4 #[.slice a len cap, .slice a2 len2 cap2] w fun e w' => e = .returned (.bool true) ∧ Below w.heap.size w w' := by
  obtain ⟨xs, hl, -, hrd, -⟩ := hrow.ints
  obtain ⟨bs, hl2, hbs, hrd2, -⟩ := hrow2.ints
  subst hl
  subst hl2
  clear hrow hrow2
  have H := Sep.start w
  have HRD : Hid (Reads [HP.old w.heap.size w] (.slice a xs.length cap) xs.length 1 (xs.map iv)) := Lib.hid (Reads.old hrd)
  have HRD2 : Hid (Reads [HP.old w.heap.size w] (.slice a2 bs.length cap2) bs.length 1 (bs.map iv)) := Lib.hid (Reads.old hrd2)
  have HBS := Lib.hid hbs
  clear hrd hrd2 hbs
  generalize hB : HP.old w.heap.size w = O at H HRD HRD2
  have HB := Lib.hid hB; clear hB
  by_cases hfew : 40 < xs.length
  · go_enter Try.func4, Try.ntmps4
    go_wp2_with fail
    refine (awake3 H).mono ?_
    rintro e w1 ⟨rfl, H1⟩
    go_wp2_with fail
    go_ret
    subst HB
    exact ⟨rfl, H1.below⟩
  by_cases hfew2 : 60 < bs.length
  · go_enter Try.func4, Try.ntmps4
    go_wp2_with fail
    refine (awake3 H).mono ?_
    rintro e w1 ⟨rfl, H1⟩
    go_wp2_with fail
    go_ret
    subst HB
    exact ⟨rfl, H1.below⟩
  go_enter Try.func4, Try.ntmps4
  go_wp2_with fail
  refine (awake3 H).mono ?_
  rintro e w1 ⟨rfl, H1⟩
  clear H
  go_wp2_with fail
  refine (rcheck_calls (by omega) (HRD.out _ H1)).mono ?_
  rintro e w3 ⟨rfl, rfl⟩
  by_cases he : tabErr xs = 0
  · have hv := tabErr_ok he
    rw [he]
    go_wp2_with fail
    refine (new_calls HRD.out H1).mono ?_
    rintro e w2 ⟨r, rfl, ⟨hne, -, -⟩ | ⟨-, b, rfl, H2⟩⟩
    · exact absurd he hne
    have HV := Lib.hid hv
    clear hv he H1
    go_wp2_with fail
    go_loopg [7, 8, 9] bs.length (fun gk l i _ wr => ∃ t : Nat, ∃ cs : List Int, ∃ S : List HP, Hid (t ≤ bs.length ∧ gk = bs.length - t ∧ cs.length = xs.length) ∧ Hid (Vt cs ∧ Reads (S ++ [O]) l cs.length 1 (cs.map iv)) ∧ i = .int .i64 (t : Int) ∧ Sep wr (Tbl b cs :: (S ++ [O])))
    case atStart => exact ⟨0, xs, [], Lib.hid ⟨by omega, rfl, rfl⟩, Lib.hid ⟨HV.out, HRD.out⟩, rfl, H2⟩
    case round =>
      clear H2
      obtain ⟨t, cs, S, hq, hh, rfl, Hr⟩ := hrel
      obtain ⟨q1, q2, q3⟩ := hq.out
      clear hq
      by_cases c : t < bs.length
      · have hrw := HRD2.out _ (Sep.drop_left Hr.tail)
        obtain ⟨g, o, d, he⟩ := hrw.open (by omega)
        simp only [Value.slice.injEq, true_and] at he
        obtain ⟨rfl, rfl⟩ := he
        have hc : wr.cell? ⟨g, o + t, none⟩ = some (.int .i64 bs[t]) := hrw.cell t (iv_get c)
        have HC : Hid (∀ w6, Sep w6 [O] → w6.cell? ⟨g, o + t, none⟩ = some (.int .i64 bs[t])) := Lib.hid fun w6 h6 => (HRD2.out w6 h6).cell t (iv_get c)
        clear hrw
        generalize bs[t] = y at hc HC
        obtain ⟨hv, hR⟩ := hh.out
        have HVT := Lib.hid hv
        have HRL := Lib.hid hR
        clear hv hR hh
        go_wp2_with fail
        refine (bump_calls HVT.out Hr).mono ?_
        rintro e w2 ⟨rfl, H2⟩
        clear Hr hc
        have hc := HC.out _ (Sep.drop_left H2.tail)
        by_cases hin : 0 ≤ y ∧ y < (cs.length : Int)
        · obtain ⟨k, rfl⟩ := Int.eq_ofNat_of_zero_le hin.1
          have hk : k < cs.length := by omega
          have e1 : bumpI cs k = bumpOf cs k := by unfold bumpI; rw [if_pos hin, Int.toNat_natCast]
          have e2 : bumpE cs k = 0 := by unfold bumpE; rw [if_pos hin]
          rw [e1] at H2
          rw [e2]
          clear e1 e2 hin
          have hk2 : (k : Int) < (xs.length : Int) := by omega
          go_wp2_with fail
          refine (rbump_calls HVT.out hk HRL.out.cons H2).mono ?_
          rintro e w3 ⟨r, rfl, H3⟩
          clear H2
          replace H3 := H3.swap
          have hbl := bumpOf_length cs k
          rw [← hbl] at H3
          have hvb := bumpOf_ok HVT.out hk
          have HVB := Lib.hid hvb
          have q3' : (bumpOf cs k).length = xs.length := by omega
          generalize bumpOf cs k = ds at H3 HVB q3'
          clear hbl hvb hc
          go_wp2_with fail
          refine (same_calls HVB.out H3.tail.rd H3).mono ?_
          rintro e w4 ⟨rfl, n4, rfl⟩
          have H4 := H3.drewN n4
          generalize w3.drewN n4 = w4 at H4 ⊢
          clear H3
          go_wp2_with fail
          go_roundg (bs.length - (t + 1))
          case rel => exact ⟨t + 1, ds, HP.row 3 1 r ds.length (ds.map iv) :: S, Lib.hid ⟨by omega, rfl, q3'⟩, Lib.hid ⟨HVB.out, Reads.row⟩, by go_num, H4⟩
          case measure => omega
        · have e1 : bumpI cs y = cs := by unfold bumpI; rw [if_neg hin]
          have e2 : bumpE cs y = 2 := by unfold bumpE; rw [if_neg hin]
          rw [e1] at H2
          rw [e2]
          clear e1 e2
          by_cases hy : y < 0
          · clear hin
            go_wp2_with fail
            refine (same_calls HVT.out (HRL.out _ H2.tail) H2).mono ?_
            rintro e w4 ⟨rfl, n4, rfl⟩
            have H4 := H2.drewN n4
            generalize w2.drewN n4 = w4 at H4 ⊢
            clear H2
            go_wp2_with fail
            go_roundg (bs.length - (t + 1))
            case rel => exact ⟨t + 1, cs, S, Lib.hid ⟨by omega, rfl, q3⟩, Lib.hid ⟨HVT.out, HRL.out⟩, by go_num, H4⟩
            case measure => omega
          · have hy2 : (xs.length : Int) ≤ y := by omega
            clear hin
            go_wp2_with fail
            refine (same_calls HVT.out (HRL.out _ H2.tail) H2).mono ?_
            rintro e w4 ⟨rfl, n4, rfl⟩
            have H4 := H2.drewN n4
            generalize w2.drewN n4 = w4 at H4 ⊢
            clear H2
            go_wp2_with fail
            go_roundg (bs.length - (t + 1))
            case rel => exact ⟨t + 1, cs, S, Lib.hid ⟨by omega, rfl, q3⟩, Lib.hid ⟨HVT.out, HRL.out⟩, by go_num, H4⟩
            case measure => omega
      · go_wp2_with fail
        go_ret
        subst HB
        exact ⟨rfl, Hr.tail.below_of⟩
  · have hne : ((tabErr xs : Int) != 0) = true := by rw [bne_iff_ne]; omega
    generalize tabErr xs = t at hne ⊢
    clear he
    go_wp2_with fail
    go_ret
    subst HB
    exact ⟨rfl, H1.below⟩

end Go.Proofs.Ytglinpclcmmnbaa
