/- Reference 25: Read. -/
import Derived.Test.YticeolbagfaofaaOrd11
namespace Go.Proofs.Yticeolbagfaofaa
open Go.RowKit

/-- What Read gives. -/
def ReadPost (n : Nat) (bs : List Bool) (R : List HP) (r : Value) (w' : World) : Prop :=
  ((decR n (numsL n) bs).2.2 ≠ 0 ∧ r = .tuple #[.slice none 0 0, .int .i64 0, .int .i64 ((decR n (numsL n) bs).2.2 : Int)] ∧ Sep w' R) ∨
  ((decR n (numsL n) bs).2.2 = 0 ∧ ∃ v, r = .tuple #[v, .int .i64 ((decR n (numsL n) bs).2.1 : Int), .int .i64 0] ∧ (decR n (numsL n) bs).1.length = n ∧ Sep w' (HP.row 3 1 v n ((decR n (numsL n) bs).1.map iv) :: R))

theorem decR_cases {m j : Nat} {L : List Int} {l : List Bool} (hj : j ≤ l.length) :
    (l.length < j + widthN ((m + 1 : Nat) : Int) → decR (m + 1) L (l.drop j) = ([], 0, 4)) ∧
    (¬ l.length < j + widthN ((m + 1 : Nat) : Int) → m + 1 ≤ ofBits ((l.drop j).take (widthN ((m + 1 : Nat) : Int))) → decR (m + 1) L (l.drop j) = ([], 0, 3)) ∧
    (¬ l.length < j + widthN ((m + 1 : Nat) : Int) → ¬ m + 1 ≤ ofBits ((l.drop j).take (widthN ((m + 1 : Nat) : Int))) →
      decR (m + 1) L (l.drop j) = joinR [L.getD (ofBits ((l.drop j).take (widthN ((m + 1 : Nat) : Int)))) 0] (widthN ((m + 1 : Nat) : Int)) (decR m (L.eraseIdx (ofBits ((l.drop j).take (widthN ((m + 1 : Nat) : Int))))) (l.drop (j + widthN ((m + 1 : Nat) : Int))))) := by
  generalize hw : widthN ((m + 1 : Nat) : Int) = k
  refine ⟨fun h1 => ?_, fun h1 h2 => ?_, fun h1 h2 => ?_⟩
  · rw [decR, hw, if_pos (by rw [List.length_drop]; omega)]
  · rw [decR, hw, if_neg (by rw [List.length_drop]; omega), if_pos h2]
  · rw [decR, hw, if_neg (by rw [List.length_drop]; omega), if_neg h2]
    simp only [List.drop_drop]
    rfl

theorem ofBits_take_succ {l : List Bool} {j u : Nat} (h : j + u < l.length) : ofBits ((l.drop j).take (u + 1)) = 2 * ofBits ((l.drop j).take u) + (l.getD (j + u) false).toNat := by
  have hl : u < (l.drop j).length := by rw [List.length_drop]; omega
  have hg : (l.drop j)[u] = l.getD (j + u) false := by
    rw [List.getElem_drop, List.getD, List.getElem?_eq_getElem h]; rfl
  rw [List.take_succ_eq_append_getElem hl, ofBits_snoc, hg]

set_option maxRecDepth 100000 in
set_option maxHeartbeats 4000000 in
theorem read25_calls {v : Value} {bs : List Bool} {n : Nat} {R : List HP} {w : World} (hn : n ≤ 40) (hb : bs.length ≤ 400) (hrd : Reads R v bs.length 1 (bs.map bitv)) (H : Sep w R) :
    Calls Try.prog 24 #[v, .int .i64 (n : Int)] w (Gives (ReadPost n bs R)) := by
  obtain ⟨a, cap, rfl⟩ := (hrd w H).form
  have HRD := Lib.hid hrd
  have HJ0 : Hid (decR n (numsL n) bs = joinR [] 0 (decR n (numsL n) bs)) := Lib.hid (joinR_nil _ (decR_err _ _ _)).symm
  obtain ⟨D, hD⟩ : ∃ D, D = decR n (numsL n) bs := ⟨_, rfl⟩
  have HD := Lib.hid hD
  clear hrd hD
  go_enter Try.func24, Try.ntmps24
  go_wp2_with fail
  go_loopg [7, 8] n (fun gk o i wr => ∃ t : Nat, Hid (t ≤ n ∧ gk = n - t) ∧ i = .int .i64 (t : Int) ∧ Sep wr (HP.row 3 1 o t ((numsL t).map iv) :: R))
  case atStart => exact ⟨0, Lib.hid ⟨by omega, rfl⟩, rfl, H.row_nil _ _⟩
  case round =>
    clear H
    obtain ⟨t, hq, rfl, Hr⟩ := hrel
    obtain ⟨q1, q2⟩ := hq.out
    clear hq
    obtain ⟨oa, oc, rfl⟩ := Hr.row_form
    by_cases c : t < n
    · have h63 : t + 1 ≤ maxLen := by unfold maxLen; omega
      have hby : (t + 1) * 8 ≤ 140737488355328 := by omega
      have hm : (numsL t).map iv ++ [.int .i64 (t : Int)] = (numsL (t + 1)).map iv := by rw [numsL_succ, List.map_append]; rfl
      have HM := Lib.hid hm
      clear hm
      go_wp2_with ((at_builtin; go_must (refine wpList_append_one rfl (.tmp 21) (.tmp 23) 22 rfl 3 (.int .i64 0) 8 Try.underlying22 info_iv rfl (.slice oa t oc) t _ (.int .i64 (t : Int)) rfl rfl Hr rfl h63 hby ?_); intro g7 c7 w7 H7; rw [HM.out] at H7))
      go_roundg (n - (t + 1))
      case rel => exact ⟨t + 1, Lib.hid ⟨by omega, rfl⟩, by go_num, H7⟩
      case measure => omega
    · obtain rfl : t = n := by omega
      go_wp2_with fail
      go_loopg [7, 9, 10, 11, 12, 13, 14, 15] t (fun gk left o atv i _ _ _ _ wr => ∃ m j : Nat, ∃ L out : List Int, ∃ lv ov : Value, lv = left ∧ ov = o ∧ Hid (m ≤ t ∧ gk = m ∧ L.length = m ∧ out.length = t - m ∧ j ≤ bs.length) ∧ Hid (D = joinR out j (decR m L (bs.drop j))) ∧ atv = .int .i64 (j : Int) ∧ i = .int .i64 ((t : Int) - (m : Int)) ∧ Sep wr (HP.row 3 1 lv L.length (L.map iv) :: HP.row 3 1 ov out.length (out.map iv) :: R))
      case atStart => exact ⟨t, 0, numsL t, [], _, _, rfl, rfl, Lib.hid ⟨Nat.le_refl _, rfl, numsL_length t, by simp, by omega⟩, Lib.hid (by rw [HD.out, List.drop_zero]; exact HJ0.out), rfl, by go_num, by rw [numsL_length]; exact (Hr.row_nil _ _).swap⟩
      case round =>
        clear Hr
        obtain ⟨m, j, L, out, lv, ov, rfl, rfl, hq, hh, rfl, rfl, Hr⟩ := hrel
        obtain ⟨la, lc, rfl⟩ := Hr.row_form
        obtain ⟨oa, oc, rfl⟩ := Hr.tail.row_form
        cases m with
        | zero =>
          obtain ⟨q1, q2, q3, q4, q5⟩ := hq.out
          have h := hh.out
          have hL : L = [] := List.eq_nil_of_length_eq_zero q3
          subst hL
          rw [decR] at h
          unfold joinR at h
          rw [if_pos rfl, List.append_nil, Nat.add_zero] at h
          have H3 := Lib.hid h
          have hlen : out.length = t := by omega
          clear h hh hq q1 q2 q3 q4 q5
          subst hlen
          have H4 := Lib.hid Hr.tail
          clear Hr c
          go_wp2_with fail
          go_ret3
          have h := HD.out
          rw [H3.out] at h
          refine ⟨_, rfl, .inr ?_⟩
          rw [← h]
          exact ⟨rfl, _, rfl, rfl, H4.out⟩
        | succ m =>
          obtain ⟨q1, q2, q3, q4, q5⟩ := hq.out
          obtain ⟨k1, k2, k3⟩ := decR_cases (m := m) (j := j) (L := L) (l := bs) q5
          have hwc := fun w1 => rwidth25_calls (m := m) (by omega) (w := w1)
          have hws := width_small (k := m) (by omega)
          generalize widthN ((m + 1 : Nat) : Int) = W at *
          have hmI : ((m + 1 : Nat) : Int) = (m : Int) + 1 := by omega
          rw [hmI] at hwc ⊢
          have HWC := Lib.hid hwc
          have K1 := Lib.hid k1
          have K2 := Lib.hid k2
          have K3 := Lib.hid k3
          have HQ := Lib.hid (And.intro q1 (And.intro q2 (And.intro q3 (And.intro q4 q5))))
          have hmt : m < t := by omega
          have hLb : L.length ≤ 40 := by omega
          have hob : out.length ≤ 40 := by omega
          have hjb : j ≤ 400 := by omega
          have hsub : (t : Int) - ((t : Int) - ((m : Int) + 1)) = (m : Int) + 1 := by omega
          clear hwc k1 k2 k3 hmI hq q1 q2 q3 q4 q5 c
          by_cases h1 : bs.length < j + W
          · have hD2 : D = ([], 0, 4) := by
              rw [hh.out, K1.out h1]; rfl
            have HD2 := Lib.hid hD2
            have H4 := Lib.hid Hr.tail.tail
            clear hD2 Hr hh
            go_wp2_with fail
            refine (HWC.out _).mono ?_
            rintro e w2 ⟨rfl, rfl⟩
            go_wp2_with fail
            go_ret3
            have h := HD.out
            rw [HD2.out] at h
            refine ⟨_, rfl, .inl ?_⟩
            rw [← h]
            exact ⟨by decide, rfl, H4.out⟩
          · go_wp2_with fail
            refine (HWC.out _).mono ?_
            rintro e w2 ⟨rfl, rfl⟩
            go_wp2_with fail
            go_loopg [13, 14] W (fun gk d k wr2 => wr2 = wr ∧ ∃ u : Nat, Hid (u ≤ W ∧ gk = W - u) ∧ d = .int .i64 (ofBits ((bs.drop j).take u) : Int) ∧ k = .int .i64 (u : Int))
            case atStart => exact ⟨rfl, 0, Lib.hid ⟨by omega, rfl⟩, rfl, rfl⟩
            case round =>
              obtain ⟨rfl, u, hq, rfl, rfl⟩ := hrel
              obtain ⟨q6, q7⟩ := hq.out
              clear hq
              have hvb : ofBits ((bs.drop j).take u) < 1048576 := by
                have := ofBits_lt ((bs.drop j).take u)
                have h4 : ((bs.drop j).take u).length ≤ 20 := by rw [List.length_take]; omega
                have h20 : (2 : Nat) ^ 20 = 1048576 := by decide +kernel
                rw [← h20]
                exact Nat.lt_of_lt_of_le this (Nat.pow_le_pow_right (by omega) h4)
              by_cases cu : u < W
              · have hju : j + u < bs.length := by omega
                have hrw := HRD.out _ Hr.tail.tail
                obtain ⟨g, o, cp, he⟩ := hrw.open (by omega)
                simp only [Value.slice.injEq, true_and] at he
                obtain ⟨rfl, rfl⟩ := he
                have cb : wr.cell? ⟨g, o + (j + u), none⟩ = some (.int .i64 ((bs.getD (j + u) false).toNat : Int)) := hrw.cell _ (bit_get _ _ hju)
                have hs := ofBits_take_succ hju
                have hx1 : (bs.getD (j + u) false).toNat ≤ 1 := by cases bs.getD (j + u) false <;> decide
                have HS := Lib.hid hs
                clear hrw hs
                generalize (bs.getD (j + u) false).toNat = x at *
                generalize ofBits ((bs.drop j).take u) = V at *
                go_wp2_with fail
                go_roundg (W - (u + 1))
                case rel => exact ⟨rfl, u + 1, Lib.hid ⟨by omega, rfl⟩, by rw [HS.out]; go_num, by go_num⟩
                case measure => omega
              · obtain rfl : u = W := by omega
                by_cases h2 : m + 1 ≤ ofBits ((bs.drop j).take u)
                · have hD2 : D = ([], 0, 3) := by
                    rw [hh.out, K2.out h1 h2]; rfl
                  have HD2 := Lib.hid hD2
                  have H4 := Lib.hid Hr.tail.tail
                  have hge : (L.length : Int) ≤ (ofBits ((bs.drop j).take u) : Int) := by have := HQ.out; omega
                  clear hD2 Hr hh h2
                  generalize ofBits ((bs.drop j).take u) = V at *
                  go_wp2_with fail
                  go_ret3
                  have h := HD.out
                  rw [HD2.out] at h
                  refine ⟨_, rfl, .inl ?_⟩
                  rw [← h]
                  exact ⟨by decide, rfl, H4.out⟩
                · have hdl : ofBits ((bs.drop j).take u) < L.length := by have := HQ.out; omega
                  have hk3 := K3.out h1 h2
                  have hnew := hh.out
                  rw [hk3, joinR_joinR, getD_get hdl] at hnew
                  generalize ofBits ((bs.drop j).take u) = d at *
                  have HN := Lib.hid hnew
                  have hel : (L.eraseIdx d).length = m := by rw [List.length_eraseIdx_of_lt hdl]; have := HQ.out; omega
                  have hap : (L.take d).map iv ++ (L.drop (d + 1)).map iv = (L.eraseIdx d).map iv := by rw [List.eraseIdx_eq_take_drop_succ, List.map_append]
                  have hlm : d + (L.length - (d + 1)) = (L.eraseIdx d).length := by rw [hel]; have := HQ.out; omega
                  obtain ⟨g, cp, cur, he, hcp, -⟩ := Hr.row_open (by omega)
                  simp only [Value.slice.injEq, true_and] at he
                  obtain ⟨rfl, rfl⟩ := he
                  have cd : wr.cell? ⟨g, d, none⟩ = some (.int .i64 L[d]) := Hr.row_cell d (iv_get hdl)
                  have HM : Hid (out.map iv ++ [.int .i64 L[d]] = (out ++ [L[d]]).map iv ∧ (out ++ [L[d]]).length = out.length + 1) := Lib.hid ⟨by rw [List.map_append]; rfl, by simp⟩
                  have HEL := Lib.hid (And.intro hel (And.intro hap hlm))
                  have hH1 := Hr.swap
                  generalize L[d] = y at *
                  obtain ⟨A, hA, hsrc⟩ : ∃ A : Addr, (if lc = d + 1 then (some ⟨g, 0, none⟩ : Option Addr) else some ⟨g, d + 1, none⟩) = some A ∧ Hid (∀ (w8 : World) (R8 : List HP), Sep w8 (HP.row 3 1 (.slice (some ⟨g, 0, none⟩) L.length lc) L.length (L.map iv) :: R8) → RdS w8 (.slice (some A) (L.length - (d + 1)) (lc - (d + 1))) (L.length - (d + 1)) 1 ((L.drop (d + 1)).map iv)) := by
                    by_cases h : lc = d + 1
                    · refine ⟨⟨g, 0, none⟩, by simp [h], Lib.hid fun w8 R8 h8 => ⟨by rw [List.length_map, List.length_drop]; omega, .inr ⟨_, _, rfl, fun s u hu => ?_⟩⟩⟩
                      have h0 : ((L.drop (d + 1)).map iv).length = 0 := by rw [List.length_map, List.length_drop]; omega
                      rw [List.length_eq_zero_iff.1 h0] at hu
                      simp at hu
                    · refine ⟨⟨g, d + 1, none⟩, by simp [h], Lib.hid fun w8 R8 h8 => ⟨by rw [List.length_map, List.length_drop]; omega, .inr ⟨_, _, rfl, fun s u hu => ?_⟩⟩⟩
                      rw [List.getElem?_map, List.getElem?_drop] at hu
                      rw [addr_add]
                      exact h8.row_cell (d + 1 + s) (by rw [List.getElem?_map]; exact hu)
                  have HTK : Hid (∀ (w8 : World) (R8 : List HP), Sep w8 (HP.row 3 1 (.slice (some ⟨g, 0, none⟩) L.length lc) L.length (L.map iv) :: R8) → RdS w8 (.slice (some ⟨g, 0, none⟩) d lc) d 1 ((L.take d).map iv)) := Lib.hid fun w8 R8 h8 => by
                    have := h8.rd.take (k := d) (by omega)
                    rwa [← List.map_take] at this
                  have hdc : d ≤ lc := by omega
                  have hd1 : d + 1 ≤ L.length := by omega
                  have hd2 : d + 1 ≤ lc := by omega
                  have hdI : (d : Int) < (L.length : Int) := by omega
                  have h63a : out.length + 1 ≤ maxLen := by unfold maxLen; omega
                  have hbya : (out.length + 1) * 8 ≤ 140737488355328 := by omega
                  have h63b : 0 + d ≤ maxLen := by unfold maxLen; omega
                  have hbyb : (0 + d) * 8 ≤ 140737488355328 := by omega
                  have h63c : d + (L.length - (d + 1)) ≤ maxLen := by unfold maxLen; omega
                  have hbyc : (d + (L.length - (d + 1))) * 8 ≤ 140737488355328 := by omega
                  clear hh hnew hk3 hel hap hlm h2 h1 Hr
                  go_wp2_with (first
                    | (at_builtin; refine wpList_append_one rfl (.tmp 61) (.tmp 66) 22 rfl 3 (.int .i64 0) 8 Try.underlying22 info_iv rfl (.slice oa out.length oc) out.length _ (.int .i64 y) rfl rfl hH1 rfl h63a hbya ?_; intro g7 c7 w7 H7; rw [HM.out.1] at H7; have hT := HTK.out _ _ H7.swap)
                    | (at_builtin; refine wpList_append_src rfl (.tmp 68) (.tmp 71) 22 rfl 3 (.int .i64 0) 1 8 Try.underlying22 info_iv rfl (by decide) (.slice none 0 0) 0 [] rfl (H7.row_nil _ _) (.slice (some ⟨g, 0, none⟩) d lc) _ _ rfl hT (iv_one _) h63b hbyb ?_; intro v8 w8 H8; rw [Nat.zero_add, List.nil_append] at H8; obtain ⟨va, vc, hv8⟩ := H8.row_form; subst hv8; have hS := hsrc.out _ _ H8.rot3)
                    | (at_builtin; refine wpList_append_src rfl (.tmp 73) (.tmp 77) 22 rfl 3 (.int .i64 0) 1 8 Try.underlying22 info_iv rfl (by decide) (.slice va d vc) d _ rfl H8 (.slice (some A) (L.length - (d + 1)) (lc - (d + 1))) _ _ rfl hS (iv_one _) h63c hbyc ?_; intro v9 w9 H9; obtain ⟨wa, wc, hv9⟩ := H9.row_form; subst hv9))
                  have H10 := H9.rot3.tail
                  have hfin := HEL.out
                  rw [hfin.2.1, hfin.2.2, ← HM.out.2] at H10
                  go_roundg m
                  case rel => exact ⟨m, j + u, L.eraseIdx d, out ++ [y], _, _, by rw [hfin.2.2], by rw [HM.out.2], Lib.hid ⟨by omega, rfl, hfin.1, by rw [HM.out.2]; have := HQ.out; omega, by omega⟩, HN, by go_num, by go_num, H10⟩
                  case measure => have := HQ.out; omega

end Go.Proofs.Yticeolbagfaofaa
