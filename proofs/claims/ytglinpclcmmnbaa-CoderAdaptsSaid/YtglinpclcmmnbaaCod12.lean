/- coder, the reference: Bytes. -/
import Derived.Test.YtglinpclcmmnbaaCod11
namespace Go.Proofs.Ytglinpclcmmnbaa
open Go.RowKit Go.Shelf

theorem upN_le {K L n : Nat} (hn : n ≤ K) (h : L < 256 ^ K) : upN K L n ≤ 256 ^ n := by
  have hp : 0 < 256 ^ (K - n) := Nat.pow_pos (by decide)
  have h2 : 256 ^ K = 256 ^ n * 256 ^ (K - n) := by rw [← Nat.pow_add]; congr 1; omega
  have h3 : L / 256 ^ (K - n) < 256 ^ n := (Nat.div_lt_iff_lt_mul hp).2 (by rw [← h2]; exact h)
  unfold upN
  split <;> omega
theorem wide_val {m K u : Nat} (hm : m ≤ K) (hu : u < 256 ^ m) : valD (wideL (digs m u) K) = u * 256 ^ (K - m) := by
  have e : wideL (digs m u) K = digs m u ++ List.replicate (K - m) 0 := by
    unfold wideL
    rw [List.take_append, digs_length, List.take_of_length_le (by rw [digs_length]; exact hm), List.take_replicate, Nat.min_eq_left (by omega)]
  rw [e, valD_append, List.length_replicate, valD_digs, Nat.mod_eq_of_lt hu, (valD_zero_iff _).2 (fun d hd => (List.mem_replicate.1 hd).2), Nat.add_zero]
theorem inI_iff {k L R m : Nat} (hm : m ≤ k + 4) (hR : 0 < R) (hu : upN (k + 4) L m < 256 ^ m) : InI (k, L, R) (digs m (upN (k + 4) L m)) ↔ OkN (k + 4) L R m := by
  unfold InI
  simp only
  rw [wide_val hm hu]
  have hp : 0 < 256 ^ (k + 4 - m) := Nat.pow_pos (by decide)
  constructor
  · intro ⟨h1, h2⟩
    by_cases h0 : L % 256 ^ (k + 4 - m) = 0
    · exact .inl h0
    · refine .inr ?_
      unfold upN at h2
      rw [if_neg h0, Nat.add_mul, Nat.one_mul] at h2
      have hd := Nat.div_add_mod L (256 ^ (k + 4 - m))
      have hc := Nat.mul_comm (256 ^ (k + 4 - m)) (L / 256 ^ (k + 4 - m))
      omega
  · exact fun h => upN_spec h hR
theorem front_get {m u : Nat} : (digs (1 + m) u)[0]? = some (u / 256 ^ m % 256) := by
  rw [digs_get (by omega)]
  congr 3
  congr 1
  omega

set_option maxRecDepth 100000 in
set_option maxHeartbeats 8000000 in
theorem rbytes_calls {v : Value} {x : Nat × Nat × Nat} {F : List HP} {w : World} (hI : IvI x) (hk : x.1 ≤ 1000)
    (hrd : Reads F v (x.1 + 4) 1 ((digs (x.1 + 4) x.2.1).map dv)) (H : Sep w F) :
    Calls Try.prog 43 #[.agg #[v, .int .i64 (x.2.2 : Int)]] w (Gives fun r w' => ∃ c, IsCode (x.1 + 4) x.2.1 x.2.2 c ∧ Sep w' (HP.row 5 1 r c.length (c.map bv) :: F)) := by
  obtain ⟨k, L, R⟩ := x
  simp only at hk hrd
  have hIv : Iv k L R := hI
  obtain ⟨i1, i2, i3⟩ := hIv
  obtain ⟨a, cap, rfl⟩ := (hrd w H).form
  have H0 := H.alloc #[.slice a (k + 4) cap, .int .i64 (R : Int)] 53
  have hL : L < 256 ^ (k + 4) := by omega
  have hd0 := digs_zero_cons hL
  have hm0 : [Value.int .i64 0] ++ (digs (k + 4) L).map dv = (digs (1 + (k + 4)) L).map dv := by rw [hd0]; simp [dv]
  have HM0 := Lib.hid hm0
  have HRD := Lib.hid hrd
  have h63 : 1 + (k + 4) ≤ maxLen := by unfold maxLen; omega
  have hby : (1 + (k + 4)) * 8 ≤ 140737488355328 := by omega
  clear hd0 hm0 hrd
  go_enter Try.func43, Try.ntmps43
  go_wp2_with fail
  generalize w.heap.size = n0 at *
  generalize w.alloc (.cells #[.slice a (k + 4) cap, .int .i64 (R : Int)] 53) = w0 at *
  go_loopg [3] (k + 5) (fun gk j wr => ∃ m : Nat, Hid (m ≤ k + 4 ∧ gk = k + 5 - m ∧ ∀ j, j < m → ¬ OkN (k + 4) L R j) ∧ j = .int .i64 (m : Int) ∧ Sep wr (HP.pt n0 #[.slice a (k + 4) cap, .int .i64 (R : Int)] 53 :: F))
  case atStart => exact ⟨0, Lib.hid ⟨by omega, rfl, fun j hj => absurd hj (by omega)⟩, rfl, H0⟩
  case round =>
    clear H0 H
    obtain ⟨m, hq, rfl, Hr⟩ := hrel
    obtain ⟨q1, q2, q3⟩ := hq.out
    clear hq
    have HQ := Lib.hid q3
    clear q3
    have c0 := Hr.cell 0 rfl
    have HN0 := Hr.alloc #[.int .i64 0] 3
    have HN : Sep _ (HP.row 3 1 (.slice (some ⟨wr.heap.size, 0, none⟩) 1 1) 1 [.int .i64 0] :: _) := Sep.row_shut HN0 (Nat.le_refl _) (by unfold maxLen; omega) rfl rfl
    have d0 := HN.tail.cell 0 rfl
    have hrdN := (Reads.append HRD.out [_, _]) _ HN
    clear HN0
    go_wp2_with ((at_builtin; go_must (refine wpList_append_src rfl (.tmp 12) (.tmp 14) 22 rfl 3 (.int .i64 0) 1 8 Try.underlying22 info_iv rfl (by decide) (.slice (some ⟨wr.heap.size, 0, none⟩) 1 1) 1 _ rfl HN (.slice a (k + 4) cap) (k + 4) _ rfl hrdN (dv_one _) h63 hby ?_); intro v7 w7 H7; obtain ⟨va, vc, hv7⟩ := H7.row_form; subst hv7))
    rw [HM0.out] at H7
    obtain ⟨g, cp, _, hsv, hcap, -⟩ := H7.row_open (by omega)
    simp only [Value.slice.injEq, true_and] at hsv
    obtain ⟨rfl, rfl⟩ := hsv
    obtain ⟨T, hT⟩ : ∃ T, T = k + 4 - m := ⟨_, rfl⟩
    obtain ⟨r, hr⟩ : ∃ r, r = digs T L := ⟨_, rfl⟩
    have hrl : r.length = T := by rw [hr, digs_length]
    have hdrop : (digs (1 + (k + 4)) L).drop (m + 1) = r := by rw [digs_drop (by omega), hr, hT]; congr 1; omega
    have hdl : (digs (1 + (k + 4)) L).length = 1 + (k + 4) := digs_length _ _
    have HC : Hid (∀ t, t < T → w7.cell? ⟨g, m + 1 + t, none⟩ = some (.int .i64 ((r.getD t 0 : Nat) : Int))) := Lib.hid fun t ht => by
      refine H7.row_cell (m + 1 + t) (dv_at ?_)
      rw [← hdrop, List.getD, List.getElem?_drop, List.getElem?_eq_getElem (by omega)]
      rfl
    have HS : Hid (∀ t, t < T → valD (r.take (t + 1)) = valD (r.take t) * 256 + r.getD t 0) := Lib.hid fun t ht => valD_take_succ (by omega)
    have HX : Hid (valD r = L % 256 ^ T) := Lib.hid (by rw [hr, valD_digs])
    have HTK : Hid (r.take T = r) := Lib.hid (List.take_of_length_le (by omega))
    have HFR : Hid (((digs (1 + (k + 4)) L).map dv).take (m + 1) = (digs (m + 1) (L / 256 ^ T)).map dv) := Lib.hid (by rw [← List.map_take, digs_take (by omega), hT]; congr 3; congr 1; omega)
    have HT := Lib.hid hT
    have hTm : T = k + 4 - m := hT
    clear hr hrl hdrop hdl hT c0 d0 HN hrdN Hr
    go_loopg [5, 6] T (fun gk u j wr2 => wr2 = w7 ∧ ∃ t i : Nat, Hid (t ≤ T ∧ gk = T - t ∧ i = m + 1 + t) ∧ u = .bool (decide (¬ valD (r.take t) = 0)) ∧ j = .int .i64 (i : Int))
    case atStart => exact ⟨rfl, 0, m + 1, Lib.hid ⟨by omega, rfl, by omega⟩, rfl, by go_num⟩
    case round =>
      obtain ⟨rfl, t, i, hq, rfl, rfl⟩ := hrel
      obtain ⟨p1, p2, p3⟩ := hq.out
      clear hq
      by_cases ht : t < T
      · have hii : (i : Int) < 1 + ((k : Int) + 4) := by omega
        have hii2 : (i : Int) < ((1 + (k + 4) : Nat) : Int) := by omega
        have c1 := HC.out t ht
        rw [← p3] at c1
        have hs := HS.out t ht
        have HI3 := Lib.hid p3
        clear p3
        generalize valD (r.take t) = V at *
        generalize r.getD t 0 = d at *
        have HSS := Lib.hid hs
        clear hs
        by_cases hV : V = 0
        · have hdV : decide (¬ V = 0) = false := decide_eq_false (fun h => h hV)
          rw [hdV]
          by_cases hd : d = 0
          · have HVD := Lib.hid (And.intro hV hd)
            have hd0 : ¬ (0 : Int) < (d : Int) := by omega
            clear hV hdV hd
            go_wp2_with fail
            go_roundg (T - (t + 1))
            case rel => exact ⟨rfl, t + 1, i + 1, Lib.hid ⟨by omega, rfl, by have := HI3.out; omega⟩, by rw [HSS.out, HVD.out.1, HVD.out.2]; rfl, by go_num⟩
            case measure => omega
          · have HVD := Lib.hid (And.intro hV hd)
            have hd0 : (0 : Int) < (d : Int) := by omega
            clear hV hdV hd
            go_wp2_with fail
            go_roundg (T - (t + 1))
            case rel => exact ⟨rfl, t + 1, i + 1, Lib.hid ⟨by omega, rfl, by have := HI3.out; omega⟩, by rw [HSS.out]; have hv := HVD.out; first | exact congrArg Value.bool (decide_eq_true (by omega)).symm | exact congrArg Value.bool (decide_eq_decide.2 (by omega)), by go_num⟩
            case measure => omega
        · have hdV : decide (¬ V = 0) = true := decide_eq_true hV
          rw [hdV]
          have HVD := Lib.hid hV
          clear hV hdV
          go_wp2_with fail
          go_roundg (T - (t + 1))
          case rel => exact ⟨rfl, t + 1, i + 1, Lib.hid ⟨by omega, rfl, by have := HI3.out; omega⟩, by rw [HSS.out]; have hv := HVD.out; first | exact congrArg Value.bool (decide_eq_true (by omega)).symm | exact congrArg Value.bool (decide_eq_decide.2 (by omega)), by go_num⟩
          case measure => omega
      · have htT : t = T := by omega
        rw [htT, HTK.out, HX.out]
        have hii : ¬ (i : Int) < 1 + ((k : Int) + 4) := by omega
        have hii2 : ¬ (i : Int) < ((1 + (k + 4) : Nat) : Int) := by omega
        have h63b : 0 + (m + 1) ≤ maxLen := by unfold maxLen; omega
        have hbyb : (0 + (m + 1)) * 8 ≤ 140737488355328 := by omega
        have HE : Sep (wr.alloc (.cells #[] 3)) (HP.row 3 1 (.slice (some ⟨wr.heap.size, 0, none⟩) 0 0) 0 [] :: _) :=
          Sep.row_shut (H7.alloc #[] 3) (Nat.le_refl _) (by unfold maxLen; omega) rfl rfl
        have hrd1 := HE.tail.rd.take (show m + 1 ≤ 1 + (k + 4) by omega)
        rw [HFR.out] at hrd1
        have hmv : (m : Int) + 1 ≤ (vc : Int) := by omega
        have hmv2 : m + 1 ≤ vc := by omega
        have hup : upN (k + 4) L m = if L % 256 ^ T = 0 then L / 256 ^ T else L / 256 ^ T + 1 := by unfold upN; rw [← hTm]
        have hule := upN_le q1 hL
        have HII := inI_iff (L := L) q1 (show 0 < R by omega)
        have HUL := fun h => upN_lt (R := R) q1 h (show 0 < R by omega) i3
        generalize hu : upN (k + 4) L m = u at *
        have HUN := Lib.hid hu
        have HUP := Lib.hid hup
        have HIF := Lib.hid HII
        have HULT := Lib.hid HUL
        have HLAST : Hid (m + 1 ≤ k + 4 ∨ OkN (k + 4) L R m) := Lib.hid (by
          rcases Nat.lt_or_ge m (k + 4) with h | h
          · exact .inl h
          · obtain rfl : m = k + 4 := by omega
            exact .inr (OkN_last _ _ _))
        clear htT hTm hu hup HII HUL p3
        have HNX : Hid (u < 256 ^ m ∨ (u = 256 ^ m ∧ m + 1 ≤ k + 4 ∧ ¬ OkN (k + 4) L R m)) := Lib.hid (by
          rcases Nat.lt_or_ge u (256 ^ m) with h | h
          · exact .inl h
          · have h1 : ¬ OkN (k + 4) L R m := fun ho => absurd (HULT.out ho) (by omega)
            exact .inr ⟨by omega, HLAST.out.resolve_right h1, h1⟩)
        clear hule HLAST HULT
        rcases HNX.out with hu | ⟨hu, hm4, hno⟩
        · have e0 : u / 256 ^ m % 256 = 0 := by rw [Nat.div_eq_of_lt hu]
          have hdz : digs (m + 1) u = 0 :: digs m u := by rw [Nat.add_comm m 1]; exact digs_zero_cons hu
          have hln : (digs m u).length = m := digs_length _ _
          have hlt := digs_lt m u
          have HIS := Lib.hid (HIF.out hu)
          have HUM := Lib.hid hu
          have HDZ := Lib.hid hdz
          have HLN := Lib.hid hln
          have HLT := Lib.hid hlt
          clear HNX HIF hu hdz hln hlt
          rcases Classical.em (L % 256 ^ T = 0) with hX | hX
          have hdX : decide (¬ L % 256 ^ T = 0) = false := decide_eq_false (fun h => h hX)
          rw [hdX]
          have HU2 : Hid (u = L / 256 ^ T) := Lib.hid (by rw [HUP.out, if_pos hX])
          clear hX hdX
          rotate_left
          have hdX : decide (¬ L % 256 ^ T = 0) = true := decide_eq_true hX
          rw [hdX]
          have HU2 : Hid (u = L / 256 ^ T + 1) := Lib.hid (by rw [HUP.out, if_neg hX])
          clear hX hdX
          rotate_left
          go_wp2_with ((at_builtin; go_must (refine wpList_append_src rfl (.tmp 32) (.tmp 36) 22 rfl 3 (.int .i64 0) 1 8 Try.underlying22 info_iv rfl (by decide) (.slice (some ⟨wr.heap.size, 0, none⟩) 0 0) 0 [] rfl HE (.slice (some ⟨g, 0, none⟩) (m + 1) vc) (m + 1) _ rfl hrd1 (dv_one _) h63b hbyb ?_); intro v8 w8 H8; rw [Nat.zero_add, List.nil_append] at H8; obtain ⟨va8, vc8, hv8⟩ := H8.row_form; subst hv8; obtain ⟨gz, cz8, _, hsz, -⟩ := H8.row_open (by omega); simp only [Value.slice.injEq, true_and] at hsz; obtain ⟨hsz1, hsz2⟩ := hsz; subst hsz1; subst hsz2; first | (rw [← HU2.out] at H8; have fz := H8.row_cell 0 (dv_at (by rw [Nat.add_comm m 1]; exact front_get)); rw [e0] at fz; have HZ := Lib.hid H8.swap.tail; clear H8) | skip))
          all_goals (try (
            refine (radd_calls (N := 1) (by omega) (by omega) (by omega) Reads.row H8).mono ?_
            rintro _ w9 ⟨r9, rfl, H9⟩
            obtain ⟨va9, vc9, rfl⟩ := H9.row_form
            rw [← HU2.out] at H9
            obtain ⟨gz, cz8, _, hsz, -⟩ := H9.row_open (by omega)
            simp only [Value.slice.injEq, true_and] at hsz
            obtain ⟨rfl, rfl⟩ := hsz
            have fz := H9.row_cell 0 (dv_at (by rw [Nat.add_comm m 1]; exact front_get))
            rw [e0] at fz
            have HZ := Lib.hid H9.swap.tail.swap.tail
            clear H8 H9
            go_wp2_with fail))
          all_goals (
            have HZ1 := HZ.out
            rw [HDZ.out] at HZ1
            generalize hld : digs m u = l at *
            have HLD := Lib.hid hld.symm
            clear hld
            clear HZ fz H7 HC HS HX HTK HFR
            first | (generalize vc9 = zc at *) | (generalize vc8 = zc at *)
            go_loopg [8, 9] m (fun gk u j wr => ∃ t : Nat, Hid (t ≤ m ∧ gk = m - t) ∧ j = .int .i64 ((t : Int) + 1) ∧ ∃ ua uc, u = .slice ua t uc ∧ Sep wr (HP.row 5 1 (.slice ua t uc) t ((l.take t).map bv) :: HP.row 3 1 (.slice (some ⟨gz, 0, none⟩) (m + 1) zc) (m + 1) ((0 :: l).map dv) :: HP.pt n0 #[.slice a (k + 4) cap, .int .i64 (R : Int)] 53 :: F))
            case atStart => exact ⟨0, Lib.hid ⟨by omega, rfl⟩, rfl, none, 0, rfl, by simpa using HZ1.row_nil 5 1⟩
            case round =>
              clear HZ1
              obtain ⟨t, hq, rfl, ua, uc, rfl, Hr⟩ := hrel
              obtain ⟨p1, p2⟩ := hq.out
              clear hq
              have hln := HLN.out
              by_cases ht : t < m
              · have hti : (t : Int) + 1 < ((m + 1 : Nat) : Int) := by omega
                have hti2 : (t : Int) < (m : Int) := by omega
                have h63c : t + 1 ≤ maxLen := by unfold maxLen; omega
                have hbyc : (t + 1) * 1 ≤ 140737488355328 := by omega
                have kc : wr.cell? ⟨gz, t + 1, none⟩ = some (.int .i64 ((l[t] : Nat) : Int)) := Hr.tail.row_cell (t + 1) (dv_at (by rw [List.getElem?_cons_succ, List.getElem?_eq_getElem]))
                have hm2 : (l.take t).map bv ++ [.int .u8 ((l[t] : Nat) : Int)] = (l.take (t + 1)).map bv := by rw [List.take_succ_eq_append_getElem (by omega), List.map_append]; rfl
                have hdl := HLT.out _ (List.getElem_mem (show t < l.length by omega))
                generalize l[t] = d at *
                have hwr : IntKind.u8.wrap (d : Int) = (d : Int) := by
                  simp only [IntKind.wrap, IntKind.signed, IntKind.bits]
                  first | omega | (simp; omega)
                have HA := Hr.alloc #[.int .u8 (d : Int)] 5
                have hrn := rd_new HA
                have HB := HA.swap
                have HM := Lib.hid hm2
                clear hm2 HA
                go_wp2_with ((at_builtin; go_must (refine wpList_append_src rfl (.tmp 51) (.tmp 57) 61 rfl 5 (.int .u8 0) 1 1 Try.underlying61 info_byte rfl (by decide) (.slice ua t uc) t _ rfl HB (.slice (some ⟨wr.heap.size, 0, none⟩) 1 1) 1 [.int .u8 (d : Int)] rfl hrn (one_byte _) h63c hbyc ?_); intro v7 w7 H7; obtain ⟨va7, vc7, hv7⟩ := H7.row_form; subst hv7))
                rw [HM.out] at H7
                go_roundg (m - (t + 1))
                case rel => exact ⟨t + 1, Lib.hid ⟨by omega, rfl⟩, by go_num, va7, vc7, rfl, H7.swap.tail⟩
                case measure => omega
              · obtain rfl : t = m := by omega
                rw [List.take_of_length_le (by omega)] at Hr
                have RIN := rin_calls (x := (k, L, R)) (v := .slice a (k + 4) cap) (vb := .slice ua t uc) (b := l) hI hk HLT.out (Reads.append HRD.out [_, _, _]) (by rw [hln]; exact Reads.row) Hr
                have cl0 := Hr.tail.tail.cell 0 rfl
                have cl1 := Hr.tail.tail.cell 1 rfl
                have HUMO := Lib.hid hln
                by_cases hin : InI (k, L, R) l
                · rw [decide_eq_true hin] at RIN
                  have HOK : Hid (OkN (k + 4) L R t) := Lib.hid (HIS.out.1 hin)
                  clear hin
                  go_wp2_with fail
                  refine RIN.mono ?_
                  rintro _ w9 ⟨rfl, H9⟩
                  go_wp2_with fail
                  go_ret
                  refine ⟨_, rfl, l, ⟨t, q1, HQ.out, HOK.out, by rw [HUN.out]; exact HLD.out⟩, ?_⟩
                  have H10 := H9.rot3.tail.swap.tail
                  rw [HUMO.out]
                  exact H10
                · rw [decide_eq_false hin] at RIN
                  have HNO : Hid (¬ OkN (k + 4) L R t) := Lib.hid (fun h => hin (HIS.out.2 h))
                  clear hin
                  go_wp2_with fail
                  refine RIN.mono ?_
                  rintro _ w9 ⟨rfl, H9⟩
                  go_wp2_with fail
                  go_roundg (k + 5 - (t + 1))
                  case rel => exact ⟨t + 1, Lib.hid ⟨by
                    rcases Nat.lt_or_ge t (k + 4) with h | h
                    · exact h
                    · obtain rfl : t = k + 4 := by omega
                      exact absurd (OkN_last _ _ _) HNO.out, rfl, fun j hj => by
                    rcases Nat.lt_or_ge j t with h | h
                    · exact HQ.out j h
                    · obtain rfl : j = t := by omega
                      exact HNO.out⟩, by go_num, H9.tail.tail⟩
                  case measure => omega)
        · have e0 : u / 256 ^ m % 256 = 1 := by rw [hu, Nat.div_self (Nat.pow_pos (by decide))]
          have HNO := Lib.hid hno
          clear HNX HIF hu hno
          rcases Classical.em (L % 256 ^ T = 0) with hX | hX
          have hdX : decide (¬ L % 256 ^ T = 0) = false := decide_eq_false (fun h => h hX)
          rw [hdX]
          have HU2 : Hid (u = L / 256 ^ T) := Lib.hid (by rw [HUP.out, if_pos hX])
          clear hX hdX
          rotate_left
          have hdX : decide (¬ L % 256 ^ T = 0) = true := decide_eq_true hX
          rw [hdX]
          have HU2 : Hid (u = L / 256 ^ T + 1) := Lib.hid (by rw [HUP.out, if_neg hX])
          clear hX hdX
          rotate_left
          go_wp2_with ((at_builtin; go_must (refine wpList_append_src rfl (.tmp 32) (.tmp 36) 22 rfl 3 (.int .i64 0) 1 8 Try.underlying22 info_iv rfl (by decide) (.slice (some ⟨wr.heap.size, 0, none⟩) 0 0) 0 [] rfl HE (.slice (some ⟨g, 0, none⟩) (m + 1) vc) (m + 1) _ rfl hrd1 (dv_one _) h63b hbyb ?_); intro v8 w8 H8; rw [Nat.zero_add, List.nil_append] at H8; obtain ⟨va8, vc8, hv8⟩ := H8.row_form; subst hv8; obtain ⟨gz, cz8, _, hsz, -⟩ := H8.row_open (by omega); simp only [Value.slice.injEq, true_and] at hsz; obtain ⟨hsz1, hsz2⟩ := hsz; subst hsz1; subst hsz2; first | (rw [← HU2.out] at H8; have fz := H8.row_cell 0 (dv_at (by rw [Nat.add_comm m 1]; exact front_get)); rw [e0] at fz; have HZ := Lib.hid H8.swap.tail; clear H8) | skip))
          all_goals (try (
            refine (radd_calls (N := 1) (by omega) (by omega) (by omega) Reads.row H8).mono ?_
            rintro _ w9 ⟨r9, rfl, H9⟩
            obtain ⟨va9, vc9, rfl⟩ := H9.row_form
            rw [← HU2.out] at H9
            obtain ⟨gz, cz8, _, hsz, -⟩ := H9.row_open (by omega)
            simp only [Value.slice.injEq, true_and] at hsz
            obtain ⟨rfl, rfl⟩ := hsz
            have fz := H9.row_cell 0 (dv_at (by rw [Nat.add_comm m 1]; exact front_get))
            rw [e0] at fz
            have HZ := Lib.hid H9.swap.tail.swap.tail
            clear H8 H9
            go_wp2_with fail))
          all_goals (
            go_roundg (k + 5 - (m + 1))
            case rel => exact ⟨m + 1, Lib.hid ⟨hm4, rfl, fun j hj => by
              rcases Nat.lt_or_ge j m with h | h
              · exact HQ.out j h
              · obtain rfl : j = m := by omega
                exact HNO.out⟩, by go_num, HZ.out.tail⟩
            case measure => omega)

end Go.Proofs.Ytglinpclcmmnbaa
