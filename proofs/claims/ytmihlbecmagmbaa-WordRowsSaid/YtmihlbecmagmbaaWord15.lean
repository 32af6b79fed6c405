/- word: Decode. -/
import Derived.Test.YtmihlbecmagmbaaWord14
import Derived.Lib.SlBytesRow
import Derived.Lib.BufferRead
namespace Go.Proofs.Ytmihlbecmagmbaa
open Go.RowKit Go.Shelf

theorem info_u8' : (Try.prog.info? 5).map (fun i => (i.zero, i.size, i.bytes)) = some (some (.int .u8 0), 1, 1) := by kernel_rfl

/-- 'string(b)' of a row of letters. -/
theorem Sep.to_string {v : Value} {l : List UInt8} {R : List HP} {w : World} (H : Sep w (HP.row 5 1 v l.length (l.map lv) :: R)) :
    (convert 40 9 v).run Try.prog w = .ok (.string (str l)) w := by
  rcases H.owns.2 with ⟨rfl, h0⟩ | ⟨g, cap, cur, rfl, _, _, _, _, _, _⟩
  · have := Lib.run_convert_nil_bytes (P := Try.prog) w 40 9 5 0 Try.underlying40 Try.underlying5 Try.underlying9
    rw [List.length_eq_zero_iff.1 h0]
    exact this
  · have := run_convert_bytes_arg (P := Try.prog) w 40 5 Try.underlying40 Try.underlying5 g 0 l.length cap (l.map fun x => (x.toNat : Int)) (by simp) (fun i hi => by
      rw [Nat.zero_add]
      refine (H.row_cell i (u := .int .u8 (l[i].toNat : Int)) (by rw [List.getElem?_map, List.getElem?_eq_getElem hi]; rfl)).trans ?_
      simp [List.getD, hi]) 9 Try.underlying9
    rw [this]
    congr 2
    apply ba_ext
    rw [strOfNums_data, List.map_map]
    show _ = l
    conv => rhs; rw [← List.map_id l]
    apply List.map_congr_left
    intro x _
    simp

/-- Where the reader is behind Decode. -/
def DecPost (D : List UInt8 × Nat × Int) (b i : Nat) (l : List Bool) (R : List HP) (w' : World) : Prop := ∃ j, Sep w' (Rdr b l j :: R) ∧ (D.2.2 = 0 → j = i + D.2.1)

set_option maxRecDepth 100000 in
set_option maxHeartbeats 4000000 in
theorem wdecode_calls {b i : Nat} {l : List Bool} {R : List HP} {w : World} (hl : l.length ≤ 1000) (hi : i ≤ l.length) (H : Sep w (Rdr b l i :: R)) :
    Calls Try.prog 29 #[.pointer (some ⟨b, 0, none⟩)] w fun e w' => e = .returned (.tuple #[.string (str (decA (l.drop i)).1), .int .i64 (decA (l.drop i)).2.2]) ∧ DecPost (decA (l.drop i)) b i l R w' := by
  have hsl : (l.drop i).length = l.length - i := List.length_drop
  obtain ⟨F0, hF0⟩ : ∃ F0, F0 = (l.drop i).length + 1 := ⟨_, rfl⟩
  have hdec : Hid (decA (l.drop i) = if begB (prs F0 1 (l.drop i)).1 then (if (prs F0 1 (l.drop i)).2.2 then ((prs F0 1 (l.drop i)).1, (prs F0 1 (l.drop i)).2.1, 0) else ([], 0, 4)) else ([], 0, 3)) := Lib.hid (by rw [hF0]; rfl)
  generalize decA (l.drop i) = D at *
  go_enter Try.func29, Try.ntmps29
  go_wp2_with fail
  go_loopg [4, 5, 6] F0 (fun gk out e ms wr => ∃ (wl : List UInt8) (at' m : Nat), Hid (prs F0 1 (l.drop i) = (wl ++ (prs gk m ((l.drop i).drop at')).1, at' + (prs gk m ((l.drop i).drop at')).2.1, (prs gk m ((l.drop i).drop at')).2.2)) ∧ Hid ((l.drop i).length - at' < gk ∧ at' ≤ (l.drop i).length ∧ wl.length ≤ at' ∧ m ≤ wl.length + 1) ∧ e = .int .i64 0 ∧ ms = .int .i64 (m : Int) ∧ Sep wr (HP.row 5 1 out wl.length (wl.map lv) :: Rdr b l (i + at') :: R))
  case atStart => exact ⟨[], 0, 1, Lib.hid (by simp), Lib.hid ⟨by omega, by omega, by simp, by omega⟩, rfl, rfl, H.row_nil _ _⟩
  case round =>
    clear H
    obtain ⟨wl, at', m, hpr, hq, rfl, rfl, Hr⟩ := hrel
    obtain ⟨q1, q2, q3, q4⟩ := hq.out
    rw [hsl] at q1 q2
    clear hq
    obtain ⟨oa, oc, rfl⟩ := Hr.row_form
    by_cases hm : m = 0
    · subst hm
      have hp0 : prs F0 1 (l.drop i) = (wl, at', true) := by rw [hpr.out]; cases gk <;> simp [prs]
      have hD := hdec.out
      rw [hp0] at hD
      simp only [if_true] at hD
      have hcv := Hr.to_string
      have hbg := begins_calls (l := wl) (by omega) Hr
      cases hb : begB wl with
      | false =>
        rw [hb] at hD hbg
        simp only [Bool.false_eq_true, if_false] at hD
        subst hD
        clear hb hp0
        go_wp2_with fail
        refine hbg.mono ?_
        rintro e w2 ⟨rfl, H2⟩
        go_wp2_with fail
        go_ret2
        exact ⟨rfl, ⟨_, H2.tail, fun h => by simp at h⟩⟩
      | true =>
        rw [hb] at hD hbg
        simp only [if_true] at hD
        subst hD
        clear hb hp0
        go_wp2_with fail
        refine hbg.mono ?_
        rintro e w2 ⟨rfl, H2⟩
        have hcv2 := H2.to_string
        go_wp2_with fail
        go_ret2
        exact ⟨rfl, ⟨_, H2.tail, fun _ => rfl⟩⟩
    · obtain ⟨m1, rfl⟩ : ∃ m1, m = m1 + 1 := ⟨m - 1, by omega⟩
      obtain ⟨g1, rfl⟩ : ∃ g1, gk = g1 + 1 := ⟨gk - 1, by omega⟩
      have hdd : (l.drop i).drop at' = l.drop (i + at') := List.drop_drop
      cases hnx : nextL (l.drop (i + at')) with
      | none =>
        have hp0 : prs F0 1 (l.drop i) = (wl, at', false) := by rw [hpr.out, hdd]; simp [prs, hnx]
        have hD := hdec.out
        rw [hp0] at hD
        simp only [Bool.false_eq_true, if_false] at hD
        have hle := letter_end (R := HP.row 5 1 (.slice oa wl.length oc) wl.length (wl.map lv) :: R) hnx (by omega) (by omega) Hr.swap
        have hbg := fun (w1 : World) (R1 : List HP) (h : Sep w1 R1) => begins_calls (l := wl) (by omega) h
        have hmp : (0 : Int) < ((m1 + 1 : Nat) : Int) := by omega
        cases hb : begB wl with
        | false =>
          rw [hb] at hD hbg
          simp only [Bool.false_eq_true, if_false] at hD
          subst hD
          have HBG := Lib.hid hbg
          clear hb hp0 hbg hnx
          go_wp2_with fail
          refine hle.mono ?_
          rintro e w2 ⟨rfl, j, H2⟩
          have hcv := H2.swap.to_string
          go_wp2_with fail
          refine (HBG.out _ _ H2).mono ?_
          rintro e w3 ⟨rfl, H3⟩
          go_wp2_with fail
          go_ret2
          exact ⟨rfl, ⟨_, H3.swap.tail, fun h => by simp at h⟩⟩
        | true =>
          rw [hb] at hD hbg
          simp only [if_true] at hD
          subst hD
          have HBG := Lib.hid hbg
          clear hb hp0 hbg hnx
          go_wp2_with fail
          refine hle.mono ?_
          rintro e w2 ⟨rfl, j, H2⟩
          have hcv := H2.swap.to_string
          go_wp2_with fail
          refine (HBG.out _ _ H2).mono ?_
          rintro e w3 ⟨rfl, H3⟩
          go_wp2_with fail
          go_ret2
          exact ⟨rfl, ⟨_, H3.swap.tail, fun h => by simp at h⟩⟩
      | some cn =>
        obtain ⟨c, n⟩ := cn
        obtain ⟨n1, n2, n3, kk, hkk⟩ := nextL_some hnx
        rw [List.length_drop] at n3
        have hlo := letter_ok (R := HP.row 5 1 (.slice oa wl.length oc) wl.length (wl.map lv) :: R) hnx (by omega) Hr.swap
        have hpn : Hid (prs F0 1 (l.drop i) = ((wl ++ [c]) ++ (prs g1 (m1 + takesN c) ((l.drop i).drop (at' + n))).1, at' + n + (prs g1 (m1 + takesN c) ((l.drop i).drop (at' + n))).2.1, (prs g1 (m1 + takesN c) ((l.drop i).drop (at' + n))).2.2)) := Lib.hid (by
          rw [hpr.out, hdd]
          simp only [prs, hnx, List.drop_drop, List.append_assoc, List.cons_append, List.nil_append, Nat.add_assoc])
        have htk : takesN c = kk.takes := by unfold takesN; rw [hkk]
        have hk := kind_cases c
        rw [hkk] at hk
        have hmap : (wl.map lv) ++ [.int .u8 (c.toNat : Int)] = (wl ++ [c]).map lv := by simp [lv]
        have hll : (wl ++ [c]).length = wl.length + 1 := by simp
        have HM := Lib.hid hmap
        have h63 : wl.length + 1 ≤ maxLen := by simp only [maxLen]; omega
        have hby : (wl.length + 1) * 1 ≤ 140737488355328 := by omega
        rw [htk] at hpn
        clear hnx hpr hdec hmap htk hkk
        have hmp : (0 : Int) < ((m1 + 1 : Nat) : Int) := by omega
        have hmx : ¬ (8192 : Int) < (wl.length : Int) + 1 := by omega
        obtain ⟨x, hx⟩ : ∃ x : Nat, x = c.toNat := ⟨_, rfl⟩
        have hTK : kk.takes = if x = 69 then 0 else if x = 83 then 2 else 1 := by
          rw [hx]
          rcases hk with ⟨h, e⟩ | ⟨h, e⟩ | ⟨h, e⟩ | ⟨h, e⟩ | ⟨h, e⟩ | ⟨h, _⟩
          all_goals first
            | (cases h; done)
            | (rw [e]; cases h; rfl)
        rw [hTK] at hpn
        rw [← hx] at hlo HM
        clear hk hTK hx
        by_cases hE : x = 69
        · rw [if_pos hE] at hpn
          have e1 : ((x : Int) == 69) = true := by rw [hE]; rfl
          clear hE
          go_wp2_with fail
          refine hlo.mono ?_
          rintro e w2 ⟨rfl, H2⟩
          go_wp2_with ((at_builtin; go_must (refine wpList_append_one rfl (.tmp 25) (.tmp 27) 40 rfl 5 (.int .u8 0) 1 Try.underlying40 info_u8' rfl (.slice oa wl.length oc) wl.length _ (.int .u8 (x : Int)) rfl rfl H2.swap rfl h63 hby ?_); intro g7 c7 w7 H7; rw [HM.out] at H7))
          go_roundg g1
          case rel => exact ⟨wl ++ [c], at' + n, m1 + 0, hpn, Lib.hid ⟨by rw [hsl]; omega, by rw [hsl]; omega, by rw [hll]; omega, by rw [hll]; omega⟩, rfl, by go_num, by rw [hll, ← Nat.add_assoc]; exact H7⟩
          case measure => omega
        · rw [if_neg hE] at hpn
          have e1 := int_beq hE
          clear hE
          by_cases hS : x = 83
          · rw [if_pos hS] at hpn
            have e2 : ((x : Int) == 83) = true := by rw [hS]; rfl
            clear hS
            go_wp2_with fail
            refine hlo.mono ?_
            rintro e w2 ⟨rfl, H2⟩
            go_wp2_with ((at_builtin; go_must (refine wpList_append_one rfl (.tmp 25) (.tmp 27) 40 rfl 5 (.int .u8 0) 1 Try.underlying40 info_u8' rfl (.slice oa wl.length oc) wl.length _ (.int .u8 (x : Int)) rfl rfl H2.swap rfl h63 hby ?_); intro g7 c7 w7 H7; rw [HM.out] at H7))
            go_roundg g1
            case rel => exact ⟨wl ++ [c], at' + n, m1 + 2, hpn, Lib.hid ⟨by rw [hsl]; omega, by rw [hsl]; omega, by rw [hll]; omega, by rw [hll]; omega⟩, rfl, by go_num, by rw [hll, ← Nat.add_assoc]; exact H7⟩
            case measure => omega
          · rw [if_neg hS] at hpn
            have e2 := int_beq hS
            clear hS
            go_wp2_with fail
            refine hlo.mono ?_
            rintro e w2 ⟨rfl, H2⟩
            go_wp2_with ((at_builtin; go_must (refine wpList_append_one rfl (.tmp 25) (.tmp 27) 40 rfl 5 (.int .u8 0) 1 Try.underlying40 info_u8' rfl (.slice oa wl.length oc) wl.length _ (.int .u8 (x : Int)) rfl rfl H2.swap rfl h63 hby ?_); intro g7 c7 w7 H7; rw [HM.out] at H7))
            go_roundg g1
            case rel => exact ⟨wl ++ [c], at' + n, m1 + 1, hpn, Lib.hid ⟨by rw [hsl]; omega, by rw [hsl]; omega, by rw [hll]; omega, by rw [hll]; omega⟩, rfl, by go_num, by rw [hll, ← Nat.add_assoc]; exact H7⟩
            case measure => omega

end Go.Proofs.Ytmihlbecmagmbaa
