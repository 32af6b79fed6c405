import Derived.Test.YtoejgfbeemokcaaLaw1
import Derived.Test.YtoejgfbeemokcaaGet
import Derived.Deep.LoopGhost
namespace Go.Proofs.Ytoejgfbeemokcaa
open Go.RowKit

set_option maxRecDepth 100000 in
set_option maxHeartbeats 4000000 in
theorem law_BitsRead (a : Option Addr) (len cap : Nat) (z : List Int) {w : World} (hrow : IsRow .u8 w a len cap z) (m : Int) (_wm : (Lit.int .i64 m).wf = true)
    (a2 : Option Addr) (len2 cap2 : Nat) (z2 : List Int) (hrow2 : IsRow .i64 w a2 len2 cap2 z2) :
    Calls Try.prog 4 #[.slice a len cap, .int .i64 m, .slice a2 len2 cap2] w fun e w' => e = .returned (.bool true) ∧ Below w.heap.size w w' := by
  obtain ⟨bs, hbl, hb, hrd⟩ := hrow.bytes
  subst hbl
  have hrd2 := hrow2.rd
  have hl2 := hrow2.len
  have hw2 := hrow2.wf
  clear hrow hrow2
  generalize z2.take len2 = ws at hrd2 hl2 hw2
  have H := Sep.start w
  have HRD := Lib.hid (Reads.old (R := []) hrd)
  have HRD2 := Lib.hid (Reads.old (R := []) hrd2)
  clear hrd hrd2
  generalize hB : HP.old w.heap.size w = O at H HRD HRD2
  have HB := Lib.hid hB; clear hB
  have HBB := Lib.hid hb; clear hb
  have HW2 := Lib.hid hw2; clear hw2
  have HL2 := Lib.hid hl2; clear hl2
  by_cases hfew : bs.length ≤ 120 ∧ len2 ≤ 60
  · obtain ⟨hf1, hf2⟩ := hfew
    have h63 : bs.length ≤ maxLen := by unfold maxLen; omega
    have h63' : 0 + bs.length ≤ maxLen := by omega
    have hby : (0 + bs.length) * 1 ≤ 140737488355328 := by omega
    go_enter Try.func4, Try.ntmps4
    go_wp2_with fail
    refine (awake1 H).mono ?_
    rintro e w1 ⟨rfl, H1⟩
    clear H
    have HE : Sep (w1.alloc (.cells #[] 5)) (HP.row 5 1 (.slice (some ⟨w1.heap.size, 0, none⟩) 0 0) 0 [] :: [O]) :=
      Sep.row_shut (H1.alloc #[] 5) (Nat.le_refl _) (by unfold maxLen; omega) rfl rfl
    have hrd1 := HRD.out _ HE.tail
    go_wp2_with ((at_builtin; go_must (refine wpList_append_src rfl (.tmp 30) (.tmp 31) 24 rfl 5 (.int .u8 0) 1 1 Try.underlying24 info_u8 rfl (by decide) (.slice (some ⟨w1.heap.size, 0, none⟩) 0 0) 0 [] rfl HE (.slice a bs.length cap) _ _ rfl hrd1 (u8v_one _) h63' hby ?_); intro v3 w3 H3; rw [Nat.zero_add, List.nil_append] at H3; obtain ⟨va, vc, hv3⟩ := H3.row_form; subst hv3))
    clear HE hrd1 H1
    refine (nr_all (bs := bs) HBB.out H3.rd H3).mono ?_
    rintro e w4 ⟨v, rfl, hpost⟩
    obtain ⟨k, hk⟩ : ∃ k, k = (openBits bs m).1 := ⟨_, rfl⟩
    rcases hpost with ⟨hk0, rfl, H4⟩ | ⟨b, l, hopen, rfl, H4⟩
    · rw [← hk] at hk0 ⊢
      have HK := Lib.hid hk; clear hk
      have hkn : ((k : Int) == 0) = false := by rw [beq_eq_false_iff_ne]; omega
      go_wp2_with fail
      refine (open_calls (bs := bs) (R := HP.row 5 1 (.slice va bs.length vc) bs.length (bs.map u8v) :: [O]) (by omega) HBB.out HRD.out.cons H4).mono ?_
      rintro e w5 ⟨v, rfl, hpost⟩
      rcases hpost with ⟨-, rfl, H5⟩ | ⟨v', l', ho, rfl, H5⟩
      · rw [← HK.out]
        go_wp2_with fail
        go_loopw [12, 57] (fun _ i wr => ∃ q : Nat, q ≤ bs.length ∧ i = .int .i64 (q : Int) ∧ ∃ ys, ys.length = bs.length ∧ Sep wr (HP.row 5 1 (.slice va bs.length vc) bs.length ys :: [O])) (fun _ i _ => bs.length - (intOf i).toNat)
        case atStart => exact ⟨0, by omega, rfl, _, by simp, H5⟩
        case round =>
          obtain ⟨q, hq, rfl, ys, hys, Hr⟩ := hrel
          have HYS := Lib.hid hys; clear hys
          by_cases hlt : q < bs.length
          · obtain ⟨g, cap', cur, he, hx⟩ := Hr.row_open (by omega)
            clear hx
            simp only [Value.slice.injEq, true_and] at he
            obtain ⟨rfl, rfl⟩ := he
            obtain ⟨u, hu⟩ : ∃ u, ys[q]? = some u := ⟨_, List.getElem?_eq_getElem (by have := HYS.out; omega)⟩
            have hc : wr.cell? ⟨g, q, none⟩ = some u := Hr.row_cell q hu
            have hf := Hr.row_froz q
            have H6 := Hr.row_set q (.int .u8 0)
            clear hu
            go_wp2_with fail
            go_roundw
            case rel => exact ⟨q + 1, by omega, by go_num, _, by rw [List.length_set]; exact HYS.out, H6⟩
            case measure => simp [intOf]; omega
          · go_wp2_with fail
            go_loop [14] (fun i => i = .int .i64 0) (fun _ => 0)
            case atStart => rfl
            case round =>
              subst hrel
              by_cases h0 : 0 < len2
              · have h0' : (0 : Int) < (len2 : Int) := by omega
                go_wp2_with fail
                go_ret
                subst HB
                exact ⟨rfl, Hr.tail.below⟩
              · have h0' : ¬ (0 : Int) < (len2 : Int) := by omega
                go_wp2_with fail
                go_ret
                subst HB
                exact ⟨rfl, Hr.tail.below⟩
      · exfalso
        have := HK.out
        rw [ho] at this
        simp only at this
        omega
    · clear hk
      have HO := Lib.hid hopen
      have hll : (l.length : Int) = m ∧ l.length ≤ 960 := by
        obtain ⟨-, -, h1, -, h2, -, -⟩ := openBits_ok HBB.out hopen
        exact ⟨h1, by omega⟩
      have hl960 := hll.2
      clear hll hopen
      go_wp2_with fail
      refine (open_calls (bs := bs) (R := Rdr b l 0 :: HP.row 5 1 (.slice va bs.length vc) bs.length (bs.map u8v) :: [O]) (by omega) HBB.out HRD.out.cons.cons H4).mono ?_
      rintro e w5 ⟨v, rfl, hpost⟩
      rcases hpost with ⟨hne, -, -⟩ | ⟨v', l', ho, rfl, H5⟩
      · exact absurd (by rw [HO.out]) hne
      obtain rfl : l = l' := by
        have := HO.out.symm.trans ho
        simpa using this
      clear ho H4
      obtain ⟨ra, rc, rfl⟩ := H5.row_form
      replace H5 := H5.mid2
      go_wp2_with fail
      go_loopw [12, 57] (fun _ i wr => ∃ q : Nat, q ≤ bs.length ∧ i = .int .i64 (q : Int) ∧ ∃ ys, ys.length = bs.length ∧ Sep wr (HP.row 5 1 (.slice va bs.length vc) bs.length ys :: Rdr b l 0 :: HP.row 3 1 (.slice ra l.length rc) l.length (l.map bitv) :: [O])) (fun _ i _ => bs.length - (intOf i).toNat)
      case atStart => exact ⟨0, by omega, rfl, _, by simp, H5.swap⟩
      case round =>
          obtain ⟨q, hq, rfl, ys, hys, Hr⟩ := hrel
          have HYS := Lib.hid hys; clear hys
          by_cases hlt : q < bs.length
          · obtain ⟨g, cap', cur, he, hx⟩ := Hr.row_open (by omega)
            clear hx
            simp only [Value.slice.injEq, true_and] at he
            obtain ⟨rfl, rfl⟩ := he
            obtain ⟨u, hu⟩ : ∃ u, ys[q]? = some u := ⟨_, List.getElem?_eq_getElem (by have := HYS.out; omega)⟩
            have hc : wr.cell? ⟨g, q, none⟩ = some u := Hr.row_cell q hu
            have hf := Hr.row_froz q
            have H6 := Hr.row_set q (.int .u8 0)
            clear hu
            go_wp2_with fail
            go_roundw
            case rel => exact ⟨q + 1, by omega, by go_num, _, by rw [List.length_set]; exact HYS.out, H6⟩
            case measure => simp [intOf]; omega
          · replace Hr := Hr.tail
            clear HYS
            go_wp2_with fail
            have hl32 : l.length ≤ 33554432 := by omega
            go_loopw [13, 14, 15, 16] (fun at_ i _ _ wr => ∃ q t : Nat, q ≤ len2 ∧ t ≤ l.length ∧ at_ = .int .i64 (t : Int) ∧ i = .int .i64 (q : Int) ∧ Sep wr (Rdr b l t :: HP.row 3 1 (.slice ra l.length rc) l.length (l.map bitv) :: [O])) (fun _ i _ _ _ => len2 - (intOf i).toNat)
            case atStart => exact ⟨0, 0, by omega, by omega, rfl, rfl, Hr⟩
            case round =>
              clear Hr H5
              obtain ⟨q, t, hq, ht, rfl, rfl, Hr⟩ := hrel
              by_cases hlt : q < len2
              · have hrw2 := HRD2.out _ Hr.tail.tail
                obtain ⟨g2, o2, d2, he⟩ := hrw2.open (by omega)
                simp only [Value.slice.injEq, true_and] at he
                obtain ⟨rfl, rfl⟩ := he
                have hql : q < ws.length := by have := HL2.out; omega
                have hc : wr.cell? ⟨g2, o2 + q, none⟩ = some (.int .i64 ws[q]) := hrw2.cell _ (by simp [List.getElem?_eq_getElem hql])
                have hn := wf_i64 (HW2.out _ (List.getElem_mem hql))
                clear hrw2
                have hc6 : ∀ w6, Sep w6 [O] → w6.cell? ⟨g2, o2 + q, none⟩ = some (.int .i64 ws[q]) := fun w6 h6 => (HRD2.out w6 h6).cell _ (by simp [List.getElem?_eq_getElem hql])
                generalize ws[q] = n at hc hn hc6
                have HC6 := Lib.hid hc6; clear hc6
                go_wp2_with fail
                refine (get_all ht hl32 Hr).mono ?_
                rintro e w6 ⟨rfl, H6⟩
                have hc := HC6.out w6 H6.tail.tail
                by_cases c1 : n < 0 ∨ 64 < n
                · have hg : getOf l t n = (0, 2, t) := by unfold getOf; rw [if_pos c1]
                  rw [hg] at H6 ⊢
                  clear hg
                  have HT : t ≤ l.length := ht
                  rcases c1 with c1 | c1
                  · go_wp2_with fail
                    refine (at_ok H6).mono ?_
                    rintro e w8 ⟨rfl, rfl⟩
                    go_wp2_with fail
                    refine (left_ok HT hl32 H6).mono ?_
                    rintro e w8 ⟨rfl, k8, rfl⟩
                    have H8 := H6.drewN k8
                    generalize w6.drewN k8 = w8 at H8 ⊢
                    go_wp2_with fail
                    go_roundw
                    case rel => exact ⟨q + 1, t, by omega, HT, by go_num, by go_num, H8⟩
                    case measure => simp [intOf]; omega
                  · have c0 : ¬ n < 0 := by omega
                    go_wp2_with fail
                    refine (at_ok H6).mono ?_
                    rintro e w8 ⟨rfl, rfl⟩
                    go_wp2_with fail
                    refine (left_ok HT hl32 H6).mono ?_
                    rintro e w8 ⟨rfl, k8, rfl⟩
                    have H8 := H6.drewN k8
                    generalize w6.drewN k8 = w8 at H8 ⊢
                    go_wp2_with fail
                    go_roundw
                    case rel => exact ⟨q + 1, t, by omega, HT, by go_num, by go_num, H8⟩
                    case measure => simp [intOf]; omega
                · by_cases c2 : (l.length : Int) - t < n
                  · have hg : getOf l t n = (0, 4, t) := by unfold getOf; rw [if_neg c1, if_pos c2]
                    rw [hg] at H6 ⊢
                    clear hg
                    have c3 : ¬ n < 0 := by omega
                    have c4 : ¬ 64 < n := by omega
                    clear c1
                    have HT : t ≤ l.length := ht
                    go_wp2_with fail
                    refine (at_ok H6).mono ?_
                    rintro e w8 ⟨rfl, rfl⟩
                    go_wp2_with fail
                    refine (left_ok HT hl32 H6).mono ?_
                    rintro e w8 ⟨rfl, k8, rfl⟩
                    have H8 := H6.drewN k8
                    generalize w6.drewN k8 = w8 at H8 ⊢
                    go_wp2_with fail
                    go_roundw
                    case rel => exact ⟨q + 1, t, by omega, HT, by go_num, by go_num, H8⟩
                    case measure => simp [intOf]; omega
                  · have hg : getOf l t n = (ofBits ((l.drop t).take n.toNat), 0, t + n.toNat) := by unfold getOf; rw [if_neg c1, if_neg c2]
                    rw [hg] at H6 ⊢
                    clear hg
                    obtain ⟨n', rfl⟩ : ∃ n' : Nat, n = n' := ⟨n.toNat, by omega⟩
                    have c3 : n' ≤ 64 := by omega
                    have c4 : t + n' ≤ l.length := by omega
                    have e5 : (n' : Int).toNat = n' := rfl
                    rw [e5] at H6 ⊢
                    clear c1 c2 e5
                    have HT : t + n' ≤ l.length := c4
                    have hrd6 := H6.tail.rd
                    have hrc := H6.tail.row_cap
                    by_cases hrt : rc = t
                    · subst hrt
                      obtain rfl : n' = 0 := by omega
                      have hnum0 : RdS w6 (.slice ra 0 0) ((l.drop rc).take 0).length 1 (((l.drop rc).take 0).map bitv) := hrd6.piece0
                      have hnum := number_calls (w := w6) (l := (l.drop rc).take 0) (by simp) hnum0
                      have hz : ofBits ((l.drop rc).take 0) = 0 := rfl
                      rw [hz] at hnum ⊢
                      clear hnum0 hrd6 hz
                      go_wp2_with fail
                      refine hnum.mono ?_
                      rintro e w7 ⟨rfl, rfl⟩
                      clear hnum
                      go_wp2_with fail
                      refine (at_ok H6).mono ?_
                      rintro e w8 ⟨rfl, rfl⟩
                      go_wp2_with fail
                      refine (left_ok HT hl32 H6).mono ?_
                      rintro e w8 ⟨rfl, k8, rfl⟩
                      have H8 := H6.drewN k8
                      generalize w6.drewN k8 = w8 at H8 ⊢
                      go_wp2_with fail
                      go_roundw
                      case rel => exact ⟨q + 1, rc, by omega, HT, by go_num, by go_num, H8⟩
                      case measure => simp [intOf]; omega
                    · have htr : t < rc := by omega
                      have hlen : ((l.drop t).take n').length = n' := by rw [List.length_take, List.length_drop]; omega
                      have hnum0 : RdS w6 (.slice (ra.map fun x => x.add t) n' (rc - t)) ((l.drop t).take n').length 1 (((l.drop t).take n').map bitv) := by
                        have := hrd6.piece c4 htr
                        rw [← List.map_drop, ← List.map_take] at this
                        rw [hlen]; exact this
                      have hnum := number_calls (w := w6) (l := (l.drop t).take n') (by rw [hlen]; exact c3) hnum0
                      generalize ofBits ((l.drop t).take n') = V at hnum ⊢
                      clear hnum0 hlen hrd6 hrt
                      go_wp2_with fail
                      refine hnum.mono ?_
                      rintro e w7 ⟨rfl, rfl⟩
                      clear hnum
                      go_wp2_with fail
                      refine (at_ok H6).mono ?_
                      rintro e w8 ⟨rfl, rfl⟩
                      go_wp2_with fail
                      refine (left_ok HT hl32 H6).mono ?_
                      rintro e w8 ⟨rfl, k8, rfl⟩
                      have H8 := H6.drewN k8
                      generalize w6.drewN k8 = w8 at H8 ⊢
                      go_wp2_with fail
                      go_roundw
                      case rel => exact ⟨q + 1, t + n', by omega, HT, by go_num, by go_num, H8⟩
                      case measure => simp [intOf]; omega
              · go_wp2_with fail
                go_ret
                subst HB
                exact ⟨rfl, Hr.tail.tail.below⟩
  · have hf : 120 < bs.length ∨ (bs.length ≤ 120 ∧ 60 < len2) := by omega
    clear hfew
    rcases hf with hf | ⟨hf, hf2⟩
    all_goals
      go_enter Try.func4, Try.ntmps4
      go_wp2_with fail
      refine (awake1 H).mono ?_
      rintro e w1 ⟨rfl, H1⟩
      clear H
      go_wp2_with fail
      refine (awake1 H1).mono ?_
      rintro e w2 ⟨rfl, H2⟩
      go_wp2_with fail
      go_ret
      subst HB
      exact ⟨rfl, H2.below⟩

end Go.Proofs.Ytoejgfbeemokcaa
