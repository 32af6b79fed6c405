/- Law 22: WordLengths. -/
import Derived.Test.YtmihlbecmagmbaaLaw22a
import Derived.Test.YtmihlbecmagmbaaWord10
import Derived.Test.YtmihlbecmagmbaaWord13
import Derived.Test.YtmihlbecmagmbaaWord20
namespace Go.Proofs.Ytmihlbecmagmbaa
open Go.RowKit Go.Shelf

theorem letters_snoc (l : List UInt8) (c : UInt8) : letters (l ++ [c]) = (letters l && (kindOf c).isSome) := by simp [letters]
theorem takesI_none {c : UInt8} (h : kindOf c = none) : takesI c = -1 := by unfold takesI; rw [h]
theorem takesI_some {c : UInt8} {k : Lt} (h : kindOf c = some k) : 0 ≤ takesI c := by unfold takesI; rw [h]; simp
theorem codeR_some {c : UInt8} {k : Lt} (h : kindOf c = some k) : codeR c = codeL c := by unfold codeR codeL; rw [h]

set_option maxRecDepth 100000 in
set_option maxHeartbeats 8000000 in
theorem law_WordLengths (b : ByteArray) (_hb : b.size ≤ maxLen) {w : World} :
    Calls Try.prog 6 #[.string b] w fun e w' => e = .returned (.bool true) ∧ Below w.heap.size w w' := by
  clear _hb
  have hb := str_data b
  generalize b.data.toList = l at hb
  subst hb
  have hss := str_size l
  have H := Sep.start w
  generalize hB : HP.old w.heap.size w = O at H
  have HB := Lib.hid hB; clear hB
  by_cases hfew : 60 < l.length
  · have hi : 60 < ((str l).size : Int) := by rw [hss]; omega
    go_enter Try.func6, Try.ntmps6
    go_wp2_with fail
    refine (awake22 H).mono ?_
    rintro e w1 ⟨rfl, H1⟩
    go_wp2_with fail
    go_ret
    subst HB
    exact ⟨rfl, H1.below⟩
  have hi : ¬ 60 < ((str l).size : Int) := by rw [hss]; omega
  have h0 := fun (w1 : World) (R1 : List HP) (h : Sep w1 R1) => lengths_calls (l := l) (by omega) h
  have h1 := fun (w1 : World) (R1 : List HP) (h : Sep w1 R1) => rlengths_calls (l := l) (by omega) h
  have h2 := fun (w1 : World) (R1 : List HP) (h : Sep w1 R1) => count_calls (l := l) (by omega) h
  have h3 := fun (w1 : World) (R1 : List HP) (h : Sep w1 R1) => wcost_calls (l := l) (by omega) h
  have hE : lenE l = if lenP l then 0 else 3 := rfl
  have G2 := Lib.hid h2
  have G3 := Lib.hid h3
  clear h2 h3
  have hxl : (lensR l).length ≤ 60 := by
    unfold lensR
    split
    · rw [lensL_length]; omega
    · simp
  generalize lensR l = xs at *
  have hmm := @run_makeMap Try.prog
  cases hp : lenP l with
  | true =>
    rw [hp] at h1 hE
    replace hE : lenE l = 0 := hE
    rw [hE] at h0
    have G0 := Lib.hid h0
    have G1 := Lib.hid h1
    clear h0 h1 hE hp
    go_enter Try.func6, Try.ntmps6
    go_wp2_with fail
    refine (awake22 H).mono ?_
    rintro e w1 ⟨rfl, H1⟩
    clear H
    go_wp2_with fail
    refine (G0.out _ _ H1).mono ?_
    rintro e w2 ⟨v, rfl, H2⟩
    go_wp2_with fail
    refine (G1.out _ _ H2).mono ?_
    rintro e w3 ⟨v2, rfl, H3⟩
    clear H1 H2
    obtain ⟨va, vc, rfl⟩ := H3.row_form
    obtain ⟨ua, uc, rfl⟩ := H3.tail.row_form
    go_wp2_with fail
    go_loopg [50] xs.length (fun gk i wr => ∃ t : Nat, Hid (t ≤ xs.length ∧ gk = xs.length - t) ∧ i = .int .i64 (t : Int) ∧ Sep wr [HP.row 3 1 (.slice va xs.length vc) xs.length (xs.map iv), HP.row 3 1 (.slice ua xs.length uc) xs.length (xs.map iv), O])
    case atStart => exact ⟨0, Lib.hid ⟨by omega, rfl⟩, rfl, H3⟩
    case round =>
      clear H3
      obtain ⟨t, hq, rfl, H3⟩ := hrel
      obtain ⟨q1, q2⟩ := hq.out
      clear hq
      by_cases c : t < xs.length
      · have hr1 := H3.rd
        have hr2 := H3.tail.rd
        obtain ⟨g1, o1, d1, he1⟩ := hr1.open (by omega)
        simp only [Value.slice.injEq, true_and] at he1
        obtain ⟨rfl, rfl⟩ := he1
        obtain ⟨g2, o2, d2, he2⟩ := hr2.open (by omega)
        simp only [Value.slice.injEq, true_and] at he2
        obtain ⟨rfl, rfl⟩ := he2
        have k1 := hr1.cell t (iv_get c)
        have k2 := hr2.cell t (iv_get c)
        generalize xs[t] = y at *
        have hcI : (t : Int) < (xs.length : Int) := by omega
        clear hr1 hr2
        go_wp2_with fail
        (refine wp_region_quiet_lit (by kernel_rfl) (by kernel_rfl) ?_; (repeat (first | go_big_quiet_skip | (go_big_quiet_want; go_big_quiet_op; (try go_bits); first | go_big_quiet_on | go_big_quiet_call ((fail))))); refine wpQuiet_nil ?_; intro _ hw'; obtain ⟨nq, hw''⟩ := hw'; subst hw'')
        have H3' := H3.drewN nq
        go_wp2_with fail
        go_roundg (xs.length - (t + 1))
        case rel => exact ⟨t + 1, Lib.hid ⟨by omega, rfl⟩, by go_num, H3'⟩
        case measure => omega
      · obtain rfl : t = xs.length := by omega
        have hcI : ¬ (xs.length : Int) < (xs.length : Int) := by omega
        have H4 := (Sep.drop_left (S := [_, _]) H3).mp_make
        clear H3
        go_wp2_with fail
        generalize wr.heap.size = b1 at *
        generalize wr.alloc (.map #[] 0) = w4 at *
        go_loopg [8, 66] l.length (fun gk cv i wx => ∃ t : Nat, Hid (t ≤ l.length ∧ gk = l.length - t) ∧ cv = .int .i64 (costI (l.take t)) ∧ i = .int .i64 (t : Int) ∧ Sep wx [HP.mp b1 t (cntD (l.take t)), O])
        case atStart => exact ⟨0, Lib.hid ⟨by omega, rfl⟩, rfl, rfl, H4⟩
        case round =>
          clear H4
          obtain ⟨t, hq, rfl, rfl, Hr⟩ := hrel
          obtain ⟨p1, p2⟩ := hq.out
          clear hq
          by_cases ct : t < l.length
          · have hi2 : (t : Int) < ((str l).size : Int) := by rw [hss]; omega
            have hk2 : t < (str l).size := by omega
            have hat := str_at ct hk2
            have hta := List.take_succ_eq_append_getElem ct
            have htc := fun w => takes_calls (c := l[t]) (w := w)
            have hcc := fun w => rcode_calls (c := l[t]) (w := w)
            have hcd : cntD (l.take (t + 1)) = stepD (cntD (l.take t)) l[t] := by rw [hta]; exact cntD_snoc _ _
            have hst : stepD (cntD (l.take t)) l[t] = if (kindOf l[t]).isSome then (cntD (l.take t)).put (key l[t]) (.lit (.int .i64 (num ((cntD (l.take t)).atKey (key l[t]) zero0) + 1))) else cntD (l.take t) := rfl
            have hca := cntD_at (l.take t) l[t]
            have hcle := cnt_le (l.take t) l[t]
            rw [List.length_take] at hcle
            have hls : letters (l.take (t + 1)) = (letters (l.take t) && (kindOf l[t]).isSome) := by rw [hta]; exact letters_snoc _ _
            have hws : wbits (l.take (t + 1)) = wbits (l.take t) ++ codeL l[t] := by rw [hta]; exact wbits_snoc _ _
            have hwl := wbits_le (l.take t)
            rw [List.length_take] at hwl
            have hkw := key_wf l[t]
            have hco : costI (l.take t) = if letters (l.take t) then ((wbits (l.take t)).length : Int) else -1 := rfl
            have hco2 : costI (l.take (t + 1)) = if letters (l.take (t + 1)) then ((wbits (l.take (t + 1))).length : Int) else -1 := rfl
            rw [hls, hws, List.length_append] at hco2
            generalize l[t] = x at *
            clear hta hls hws
            cases hk : kindOf x with
            | none =>
              have htk := takesI_none hk
              rw [hk] at hst hco2
              simp only [Option.isSome_none, Bool.false_eq_true, if_false, Bool.and_false] at hst hco2
              rw [htk] at htc
              have HTC := Lib.hid htc
              have HCD := Lib.hid (hcd.trans hst)
              have HCO := Lib.hid hco2
              clear htc hcc hcd hst hca hco hco2 hk htk hkw
              generalize costI (l.take t) = K at *
              go_wp2_with fail
              refine (HTC.out _).mono ?_
              rintro e w5 ⟨rfl, rfl⟩
              go_wp2_with fail
              go_roundg (l.length - (t + 1))
              case rel => exact ⟨t + 1, Lib.hid ⟨by omega, rfl⟩, by rw [HCO.out], by go_num, by rw [HCD.out]; exact Hr.mp_put (Hr.mp_owns.mono (by omega)) (World.grownBy.refl _ _)⟩
              case measure => omega
            | some kk =>
              have htk := takesI_some hk
              have hcr := codeR_some hk
              have hcl := codeL_le x
              rw [hk] at hst hco2
              simp only [Option.isSome_some, if_true, Bool.and_true] at hst hco2
              rw [hca] at hst
              rw [hcr] at hcc
              have hz1 := bitStr_size (codeL x)
              have HTC := Lib.hid htc
              have HCC := Lib.hid hcc
              have HCD := Lib.hid (hcd.trans hst)
              have HCA := Lib.hid hca
              have HCO := Lib.hid hco2
              have hown := Hr.mp_owns
              have hkey : keyOf Try.prog 5 (.int .u8 (x.toNat : Int)) = some (key x) := Maps.keyOf_int_mk Try.underlying5 hkw
              clear htc hcc hcd hst hca hco2 hk hcr hkw
              generalize hkx : key x = kx at *
              have HKX := Lib.hid hkx
              clear hkx
              generalize cnt (l.take t) x = m at *
              generalize cntD (l.take t) = D at *
              generalize takesI x = T at *
              have hwf : (Lit.int .i64 ((m : Int) + 1)).wf = true := by simp [Lit.wf, IntKind.min, IntKind.max, IntKind.signed, IntKind.bits]; omega
              have hn : t < maxLen := by unfold maxLen; omega
              have hval : rdI (.int .i64 ((m : Int) + 1)) = some (.lit (.int .i64 ((m : Int) + 1)), []) := plainElem_int Try.underlying3 hwf
              have hT : decide (T < 0) = false := decide_eq_false (by omega)
              by_cases hlt : letters (l.take t)
              · rw [hlt] at hco HCO
                replace hco : costI (l.take t) = ((wbits (l.take t)).length : Int) := hco
                have HCO1 := Lib.hid hco
                have HCO2 : Hid (costI (l.take (t + 1)) = ((wbits (l.take t)).length : Int) + ((codeL x).length : Int)) := Lib.hid (by rw [HCO.out]; simp)
                rw [hco]
                clear hco HCO
                generalize (wbits (l.take t)).length = A at *
                generalize (codeL x).length = B at *
                have e0 : (0 : Int) ≤ (A : Int) := by omega
                generalize bitStr (codeL x) = S at *
                go_wp2_with fail
                refine (HTC.out _).mono ?_
                rintro e w5 ⟨rfl, rfl⟩
                go_wp2_with (first
                  | (at_lookup; refine wpList_lookup_own_int _ rfl _ _ 34 rfl 5 3 .i64 (Maps.int_keyed Try.underlying5) Try.underlying34 Try.underlying3 (Try.zeroValue3 _) b1 t D rfl hown _ _ rfl hkey ?_; intro cc hat2 hwc; obtain rfl : cc = (m : Int) := congrArg num (hat2.symm.trans HCA.out))
                  | (at_mapUpdate; refine wpList_mapUpdate_own _ rfl _ _ _ 34 rfl 5 3 (Maps.int_keyed Try.underlying5) Try.underlying34 rdI b1 t D rfl hown hn _ _ _ rfl rfl hkey _ [] hval ?_; intro w6 hown6 hgr6))
                refine (HCC.out _).mono ?_
                rintro e w7 ⟨rfl, rfl⟩
                have H6 := Hr.mp_put hown6 hgr6
                go_wp2_with fail
                go_roundg (l.length - (t + 1))
                case rel => exact ⟨t + 1, Lib.hid ⟨by omega, rfl⟩, by rw [HCO2.out], by go_num, by rw [HCD.out]; exact H6⟩
                case measure => omega
              · rw [Bool.not_eq_true] at hlt
                rw [hlt] at hco HCO
                replace hco : costI (l.take t) = -1 := hco
                have HCO2 : Hid (costI (l.take (t + 1)) = -1) := Lib.hid (by rw [HCO.out]; simp)
                rw [hco]
                clear hco HCO
                go_wp2_with fail
                refine (HTC.out _).mono ?_
                rintro e w5 ⟨rfl, rfl⟩
                go_wp2_with (first
                  | (at_lookup; refine wpList_lookup_own_int _ rfl _ _ 34 rfl 5 3 .i64 (Maps.int_keyed Try.underlying5) Try.underlying34 Try.underlying3 (Try.zeroValue3 _) b1 t D rfl hown _ _ rfl hkey ?_; intro cc hat2 hwc; obtain rfl : cc = (m : Int) := congrArg num (hat2.symm.trans HCA.out))
                  | (at_mapUpdate; refine wpList_mapUpdate_own _ rfl _ _ _ 34 rfl 5 3 (Maps.int_keyed Try.underlying5) Try.underlying34 rdI b1 t D rfl hown hn _ _ _ rfl rfl hkey _ [] hval ?_; intro w6 hown6 hgr6))
                have H6 := Hr.mp_put hown6 hgr6
                go_roundg (l.length - (t + 1))
                case rel => exact ⟨t + 1, Lib.hid ⟨by omega, rfl⟩, by rw [HCO2.out], by go_num, by rw [HCD.out]; exact H6⟩
                case measure => omega
          · obtain rfl : t = l.length := by omega
            have hi2 : ¬ (l.length : Int) < ((str l).size : Int) := by rw [hss]; omega
            rw [List.take_length] at Hr ⊢
            go_wp2_with fail
            refine (G2.out _ _ Hr).mono ?_
            rintro e w5 ⟨b2, rfl, H5⟩
            clear Hr
            have H5 := H5.swap
            have hown5 := H5.mp_owns
            generalize hD : cntD l = D at *
            go_wp2_with (at_range; refine wpList_range_own _ rfl _ 34 rfl 5 3 (Maps.int_keyed Try.underlying5) Try.underlying34 rdI b1 l.length D rfl hown5 ?_; intro w6 hrg6 hgr6 hsz6)
            have H6 := H5.rg_start hrg6 hgr6
            go_wp2_with fail
            generalize w5.heap.size = r at *
            clear H5 hown5 hrg6 hgr6 hsz6
            go_simp
            go_loopg [] (Maps.size D) (fun gk wx => ∃ left, Sep wx [HP.rg b1 r l.length D left gk, HP.mp b2 l.length D, O])
            case atStart => exact ⟨_, H6⟩
            case round =>
              clear H6
              obtain ⟨left, Hx⟩ := hrel
              have hrg := Hx.rg_ranges
              go_wp2_with (first
                | (at_next; refine wpList_next_ranges_ii _ rfl _ rfl 5 3 .u8 .i64 (Maps.int_keyed Try.underlying5) Try.underlying5 Try.underlying3 b1 r l.length D left gk rfl hrg ?_ ?_)
                | go_in)
              · intro hc0 hl0
                have H7 := Hx.rg_end
                have hln := fun (wz : World) (hz : Sep wz [HP.mp b1 l.length D, HP.mp b2 l.length D, O]) (ty : TypeId) => hz.mp_owns.len Try.underlying34 ty
                have hln2 := fun (wz : World) (hz : Sep wz [HP.mp b1 l.length D, HP.mp b2 l.length D, O]) (ty : TypeId) => hz.tail.mp_owns.len Try.underlying34 ty
                go_wp2_with fail
                refine (G3.out _ _ H7).mono ?_
                rintro e w8 ⟨rfl, H8⟩
                have l1 := hln _ H8
                have l2 := hln2 _ H8
                clear hln hln2
                generalize costI l = K at *
                go_wp2_with fail
                go_ret
                subst HB
                exact ⟨rfl, H8.tail.tail.below⟩
              · intro x c w7 cnt' hwx hwc hleft hat hrg7 hlt hgr7 hsz7 hent
                have H7 := Hx.rg_next hrg7 hgr7
                obtain ⟨c2, hlk, hat2, _⟩ := H7.tail.mp_owns.lookup_int (Maps.int_keyed Try.underlying5) Try.underlying34 Try.underlying3 (Try.zeroValue3 _) (key := .int .u8 x) (kl := .int .u8 x) (Maps.keyOf_int_mk Try.underlying5 hwx)
                obtain rfl : c2 = c := congrArg num (hat2.symm.trans (hat _))
                clear hat2 hat
                go_wp2_with fail
                go_roundg cnt'
                case rel => exact ⟨_, H7⟩
                case measure => omega

  | false =>
    rw [hp] at h1 hE
    replace hE : lenE l = 3 := hE
    rw [hE] at h0
    have G0 := Lib.hid h0
    have G1 := Lib.hid h1
    clear h0 h1 hE hp
    go_enter Try.func6, Try.ntmps6
    go_wp2_with fail
    refine (awake22 H).mono ?_
    rintro e w1 ⟨rfl, H1⟩
    clear H
    go_wp2_with fail
    refine (G0.out _ _ H1).mono ?_
    rintro e w2 ⟨v, rfl, H2⟩
    go_wp2_with fail
    refine (G1.out _ _ H2).mono ?_
    rintro e w3 ⟨v2, rfl, H3⟩
    clear H1 H2
    obtain ⟨va, vc, rfl⟩ := H3.row_form
    obtain ⟨ua, uc, rfl⟩ := H3.tail.row_form
    go_wp2_with fail
    go_loopg [50] xs.length (fun gk i wr => ∃ t : Nat, Hid (t ≤ xs.length ∧ gk = xs.length - t) ∧ i = .int .i64 (t : Int) ∧ Sep wr [HP.row 3 1 (.slice va xs.length vc) xs.length (xs.map iv), HP.row 3 1 (.slice ua xs.length uc) xs.length (xs.map iv), O])
    case atStart => exact ⟨0, Lib.hid ⟨by omega, rfl⟩, rfl, H3⟩
    case round =>
      clear H3
      obtain ⟨t, hq, rfl, H3⟩ := hrel
      obtain ⟨q1, q2⟩ := hq.out
      clear hq
      by_cases c : t < xs.length
      · have hr1 := H3.rd
        have hr2 := H3.tail.rd
        obtain ⟨g1, o1, d1, he1⟩ := hr1.open (by omega)
        simp only [Value.slice.injEq, true_and] at he1
        obtain ⟨rfl, rfl⟩ := he1
        obtain ⟨g2, o2, d2, he2⟩ := hr2.open (by omega)
        simp only [Value.slice.injEq, true_and] at he2
        obtain ⟨rfl, rfl⟩ := he2
        have k1 := hr1.cell t (iv_get c)
        have k2 := hr2.cell t (iv_get c)
        generalize xs[t] = y at *
        have hcI : (t : Int) < (xs.length : Int) := by omega
        clear hr1 hr2
        go_wp2_with fail
        (refine wp_region_quiet_lit (by kernel_rfl) (by kernel_rfl) ?_; (repeat (first | go_big_quiet_skip | (go_big_quiet_want; go_big_quiet_op; (try go_bits); first | go_big_quiet_on | go_big_quiet_call ((fail))))); refine wpQuiet_nil ?_; intro _ hw'; obtain ⟨nq, hw''⟩ := hw'; subst hw'')
        have H3' := H3.drewN nq
        go_wp2_with fail
        go_roundg (xs.length - (t + 1))
        case rel => exact ⟨t + 1, Lib.hid ⟨by omega, rfl⟩, by go_num, H3'⟩
        case measure => omega
      · obtain rfl : t = xs.length := by omega
        have hcI : ¬ (xs.length : Int) < (xs.length : Int) := by omega
        have H4 := (Sep.drop_left (S := [_, _]) H3).mp_make
        clear H3
        go_wp2_with fail
        generalize wr.heap.size = b1 at *
        generalize wr.alloc (.map #[] 0) = w4 at *
        go_loopg [8, 66] l.length (fun gk cv i wx => ∃ t : Nat, Hid (t ≤ l.length ∧ gk = l.length - t) ∧ cv = .int .i64 (costI (l.take t)) ∧ i = .int .i64 (t : Int) ∧ Sep wx [HP.mp b1 t (cntD (l.take t)), O])
        case atStart => exact ⟨0, Lib.hid ⟨by omega, rfl⟩, rfl, rfl, H4⟩
        case round =>
          clear H4
          obtain ⟨t, hq, rfl, rfl, Hr⟩ := hrel
          obtain ⟨p1, p2⟩ := hq.out
          clear hq
          by_cases ct : t < l.length
          · have hi2 : (t : Int) < ((str l).size : Int) := by rw [hss]; omega
            have hk2 : t < (str l).size := by omega
            have hat := str_at ct hk2
            have hta := List.take_succ_eq_append_getElem ct
            have htc := fun w => takes_calls (c := l[t]) (w := w)
            have hcc := fun w => rcode_calls (c := l[t]) (w := w)
            have hcd : cntD (l.take (t + 1)) = stepD (cntD (l.take t)) l[t] := by rw [hta]; exact cntD_snoc _ _
            have hst : stepD (cntD (l.take t)) l[t] = if (kindOf l[t]).isSome then (cntD (l.take t)).put (key l[t]) (.lit (.int .i64 (num ((cntD (l.take t)).atKey (key l[t]) zero0) + 1))) else cntD (l.take t) := rfl
            have hca := cntD_at (l.take t) l[t]
            have hcle := cnt_le (l.take t) l[t]
            rw [List.length_take] at hcle
            have hls : letters (l.take (t + 1)) = (letters (l.take t) && (kindOf l[t]).isSome) := by rw [hta]; exact letters_snoc _ _
            have hws : wbits (l.take (t + 1)) = wbits (l.take t) ++ codeL l[t] := by rw [hta]; exact wbits_snoc _ _
            have hwl := wbits_le (l.take t)
            rw [List.length_take] at hwl
            have hkw := key_wf l[t]
            have hco : costI (l.take t) = if letters (l.take t) then ((wbits (l.take t)).length : Int) else -1 := rfl
            have hco2 : costI (l.take (t + 1)) = if letters (l.take (t + 1)) then ((wbits (l.take (t + 1))).length : Int) else -1 := rfl
            rw [hls, hws, List.length_append] at hco2
            generalize l[t] = x at *
            clear hta hls hws
            cases hk : kindOf x with
            | none =>
              have htk := takesI_none hk
              rw [hk] at hst hco2
              simp only [Option.isSome_none, Bool.false_eq_true, if_false, Bool.and_false] at hst hco2
              rw [htk] at htc
              have HTC := Lib.hid htc
              have HCD := Lib.hid (hcd.trans hst)
              have HCO := Lib.hid hco2
              clear htc hcc hcd hst hca hco hco2 hk htk hkw
              generalize costI (l.take t) = K at *
              go_wp2_with fail
              refine (HTC.out _).mono ?_
              rintro e w5 ⟨rfl, rfl⟩
              go_wp2_with fail
              go_roundg (l.length - (t + 1))
              case rel => exact ⟨t + 1, Lib.hid ⟨by omega, rfl⟩, by rw [HCO.out], by go_num, by rw [HCD.out]; exact Hr.mp_put (Hr.mp_owns.mono (by omega)) (World.grownBy.refl _ _)⟩
              case measure => omega
            | some kk =>
              have htk := takesI_some hk
              have hcr := codeR_some hk
              have hcl := codeL_le x
              rw [hk] at hst hco2
              simp only [Option.isSome_some, if_true, Bool.and_true] at hst hco2
              rw [hca] at hst
              rw [hcr] at hcc
              have hz1 := bitStr_size (codeL x)
              have HTC := Lib.hid htc
              have HCC := Lib.hid hcc
              have HCD := Lib.hid (hcd.trans hst)
              have HCA := Lib.hid hca
              have HCO := Lib.hid hco2
              have hown := Hr.mp_owns
              have hkey : keyOf Try.prog 5 (.int .u8 (x.toNat : Int)) = some (key x) := Maps.keyOf_int_mk Try.underlying5 hkw
              clear htc hcc hcd hst hca hco2 hk hcr hkw
              generalize hkx : key x = kx at *
              have HKX := Lib.hid hkx
              clear hkx
              generalize cnt (l.take t) x = m at *
              generalize cntD (l.take t) = D at *
              generalize takesI x = T at *
              have hwf : (Lit.int .i64 ((m : Int) + 1)).wf = true := by simp [Lit.wf, IntKind.min, IntKind.max, IntKind.signed, IntKind.bits]; omega
              have hn : t < maxLen := by unfold maxLen; omega
              have hval : rdI (.int .i64 ((m : Int) + 1)) = some (.lit (.int .i64 ((m : Int) + 1)), []) := plainElem_int Try.underlying3 hwf
              have hT : decide (T < 0) = false := decide_eq_false (by omega)
              by_cases hlt : letters (l.take t)
              · rw [hlt] at hco HCO
                replace hco : costI (l.take t) = ((wbits (l.take t)).length : Int) := hco
                have HCO1 := Lib.hid hco
                have HCO2 : Hid (costI (l.take (t + 1)) = ((wbits (l.take t)).length : Int) + ((codeL x).length : Int)) := Lib.hid (by rw [HCO.out]; simp)
                rw [hco]
                clear hco HCO
                generalize (wbits (l.take t)).length = A at *
                generalize (codeL x).length = B at *
                have e0 : (0 : Int) ≤ (A : Int) := by omega
                generalize bitStr (codeL x) = S at *
                go_wp2_with fail
                refine (HTC.out _).mono ?_
                rintro e w5 ⟨rfl, rfl⟩
                go_wp2_with (first
                  | (at_lookup; refine wpList_lookup_own_int _ rfl _ _ 34 rfl 5 3 .i64 (Maps.int_keyed Try.underlying5) Try.underlying34 Try.underlying3 (Try.zeroValue3 _) b1 t D rfl hown _ _ rfl hkey ?_; intro cc hat2 hwc; obtain rfl : cc = (m : Int) := congrArg num (hat2.symm.trans HCA.out))
                  | (at_mapUpdate; refine wpList_mapUpdate_own _ rfl _ _ _ 34 rfl 5 3 (Maps.int_keyed Try.underlying5) Try.underlying34 rdI b1 t D rfl hown hn _ _ _ rfl rfl hkey _ [] hval ?_; intro w6 hown6 hgr6))
                refine (HCC.out _).mono ?_
                rintro e w7 ⟨rfl, rfl⟩
                have H6 := Hr.mp_put hown6 hgr6
                go_wp2_with fail
                go_roundg (l.length - (t + 1))
                case rel => exact ⟨t + 1, Lib.hid ⟨by omega, rfl⟩, by rw [HCO2.out], by go_num, by rw [HCD.out]; exact H6⟩
                case measure => omega
              · rw [Bool.not_eq_true] at hlt
                rw [hlt] at hco HCO
                replace hco : costI (l.take t) = -1 := hco
                have HCO2 : Hid (costI (l.take (t + 1)) = -1) := Lib.hid (by rw [HCO.out]; simp)
                rw [hco]
                clear hco HCO
                go_wp2_with fail
                refine (HTC.out _).mono ?_
                rintro e w5 ⟨rfl, rfl⟩
                go_wp2_with (first
                  | (at_lookup; refine wpList_lookup_own_int _ rfl _ _ 34 rfl 5 3 .i64 (Maps.int_keyed Try.underlying5) Try.underlying34 Try.underlying3 (Try.zeroValue3 _) b1 t D rfl hown _ _ rfl hkey ?_; intro cc hat2 hwc; obtain rfl : cc = (m : Int) := congrArg num (hat2.symm.trans HCA.out))
                  | (at_mapUpdate; refine wpList_mapUpdate_own _ rfl _ _ _ 34 rfl 5 3 (Maps.int_keyed Try.underlying5) Try.underlying34 rdI b1 t D rfl hown hn _ _ _ rfl rfl hkey _ [] hval ?_; intro w6 hown6 hgr6))
                have H6 := Hr.mp_put hown6 hgr6
                go_roundg (l.length - (t + 1))
                case rel => exact ⟨t + 1, Lib.hid ⟨by omega, rfl⟩, by rw [HCO2.out], by go_num, by rw [HCD.out]; exact H6⟩
                case measure => omega
          · obtain rfl : t = l.length := by omega
            have hi2 : ¬ (l.length : Int) < ((str l).size : Int) := by rw [hss]; omega
            rw [List.take_length] at Hr ⊢
            go_wp2_with fail
            refine (G2.out _ _ Hr).mono ?_
            rintro e w5 ⟨b2, rfl, H5⟩
            clear Hr
            have H5 := H5.swap
            have hown5 := H5.mp_owns
            generalize hD : cntD l = D at *
            go_wp2_with (at_range; refine wpList_range_own _ rfl _ 34 rfl 5 3 (Maps.int_keyed Try.underlying5) Try.underlying34 rdI b1 l.length D rfl hown5 ?_; intro w6 hrg6 hgr6 hsz6)
            have H6 := H5.rg_start hrg6 hgr6
            go_wp2_with fail
            generalize w5.heap.size = r at *
            clear H5 hown5 hrg6 hgr6 hsz6
            go_simp
            go_loopg [] (Maps.size D) (fun gk wx => ∃ left, Sep wx [HP.rg b1 r l.length D left gk, HP.mp b2 l.length D, O])
            case atStart => exact ⟨_, H6⟩
            case round =>
              clear H6
              obtain ⟨left, Hx⟩ := hrel
              have hrg := Hx.rg_ranges
              go_wp2_with (first
                | (at_next; refine wpList_next_ranges_ii _ rfl _ rfl 5 3 .u8 .i64 (Maps.int_keyed Try.underlying5) Try.underlying5 Try.underlying3 b1 r l.length D left gk rfl hrg ?_ ?_)
                | go_in)
              · intro hc0 hl0
                have H7 := Hx.rg_end
                have hln := fun (wz : World) (hz : Sep wz [HP.mp b1 l.length D, HP.mp b2 l.length D, O]) (ty : TypeId) => hz.mp_owns.len Try.underlying34 ty
                have hln2 := fun (wz : World) (hz : Sep wz [HP.mp b1 l.length D, HP.mp b2 l.length D, O]) (ty : TypeId) => hz.tail.mp_owns.len Try.underlying34 ty
                go_wp2_with fail
                refine (G3.out _ _ H7).mono ?_
                rintro e w8 ⟨rfl, H8⟩
                have l1 := hln _ H8
                have l2 := hln2 _ H8
                clear hln hln2
                generalize costI l = K at *
                go_wp2_with fail
                go_ret
                subst HB
                exact ⟨rfl, H8.tail.tail.below⟩
              · intro x c w7 cnt' hwx hwc hleft hat hrg7 hlt hgr7 hsz7 hent
                have H7 := Hx.rg_next hrg7 hgr7
                obtain ⟨c2, hlk, hat2, _⟩ := H7.tail.mp_owns.lookup_int (Maps.int_keyed Try.underlying5) Try.underlying34 Try.underlying3 (Try.zeroValue3 _) (key := .int .u8 x) (kl := .int .u8 x) (Maps.keyOf_int_mk Try.underlying5 hwx)
                obtain rfl : c2 = c := congrArg num (hat2.symm.trans (hat _))
                clear hat2 hat
                go_wp2_with fail
                go_roundg cnt'
                case rel => exact ⟨_, H7⟩
                case measure => omega


end Go.Proofs.Ytmihlbecmagmbaa
