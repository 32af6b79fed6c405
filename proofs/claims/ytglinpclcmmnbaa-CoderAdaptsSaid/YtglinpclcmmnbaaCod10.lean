/- coder, the reference: less, wide, In. -/
import Derived.Test.YtglinpclcmmnbaaCod9
import Derived.Test.YtglinpclcmmnbaaCod6
namespace Go.Proofs.Ytglinpclcmmnbaa
open Go.RowKit Go.Shelf

theorem valD_less {p r1 r2 : List Nat} {x y : Nat} (h1 : ∀ d ∈ r1, d < 256) (hl : r1.length = r2.length) (h : x < y) : valD (p ++ [x] ++ r1) < valD (p ++ [y] ++ r2) := by
  have a1 := valD_lt r1 h1
  rw [valD_append (p ++ [x]), valD_append (p ++ [y]), valD_snoc, valD_snoc, ← hl]
  have : (valD p * 256 + x + 1) * 256 ^ r1.length ≤ (valD p * 256 + y) * 256 ^ r1.length := Nat.mul_le_mul_right _ (by omega)
  rw [Nat.add_mul _ 1, Nat.one_mul] at this
  omega
theorem split_at {l : List Nat} {k : Nat} (h : k < l.length) : l = l.take k ++ [l[k]] ++ l.drop (k + 1) := by
  rw [← List.take_succ_eq_append_getElem h, List.take_append_drop]

set_option maxRecDepth 100000 in
set_option maxHeartbeats 2000000 in
theorem rless_calls {va vb : Value} {xs ys : List Nat} {w : World} (hx : xs.length ≤ 1099511627776) (hl : xs.length = ys.length) (h1 : ∀ d ∈ xs, d < 256) (h2 : ∀ d ∈ ys, d < 256) (ha : RdS w va xs.length 1 (xs.map dv)) (hb : RdS w vb ys.length 1 (ys.map dv)) :
    Calls Try.prog 66 #[va, vb] w fun e w' => e = .returned (.bool (decide (valD xs < valD ys))) ∧ ∃ n, w' = w.drewN n := by
  obtain ⟨a1, c1, rfl⟩ := ha.form
  obtain ⟨a2, c2, rfl⟩ := hb.form
  have HL := Lib.hid hl
  have HX := Lib.hid h1
  have HY := Lib.hid h2
  clear hl h1 h2
  go_enter Try.func66, Try.ntmps66
  go_wp2_with fail
  go_loopg [5] xs.length (fun gk i wr => ∃ k m : Nat, Hid (k ≤ xs.length ∧ gk = xs.length - k) ∧ i = .int .i64 (k : Int) ∧ wr = w.drewN m ∧ Hid (xs.take k = ys.take k))
  case atStart => exact ⟨0, 0, Lib.hid ⟨by omega, rfl⟩, rfl, rfl, Lib.hid rfl⟩
  case round =>
    obtain ⟨k, m, hq, rfl, rfl, hpre⟩ := hrel
    obtain ⟨hk, q2⟩ := hq.out
    clear hq
    by_cases hlt : k < xs.length
    · have hlt2 : k < ys.length := by have := HL.out; omega
      obtain ⟨g1, o1, d1, he⟩ := ha.open (by omega)
      simp only [Value.slice.injEq, true_and] at he
      obtain ⟨rfl, rfl⟩ := he
      obtain ⟨g2, o2, d2, he⟩ := hb.open (by omega)
      simp only [Value.slice.injEq, true_and] at he
      obtain ⟨rfl, rfl⟩ := he
      have k1 : w.cell? ⟨g1, o1 + k, none⟩ = some (.int .i64 (xs[k] : Int)) := ha.cell _ (dv_at (List.getElem?_eq_getElem hlt))
      have k2 : w.cell? ⟨g2, o2 + k, none⟩ = some (.int .i64 (ys[k] : Int)) := hb.cell _ (dv_at (List.getElem?_eq_getElem hlt2))
      have hi1 : (k : Int) < (xs.length : Int) := by omega
      have hi2 : (k : Int) < (ys.length : Int) := by omega
      have HT := Lib.hid (take_succ_eq4 hlt hlt2 hpre.out)
      have hsx := split_at hlt
      have hsy := split_at hlt2
      have hdl : (xs.drop (k + 1)).length = (ys.drop (k + 1)).length := by rw [List.length_drop, List.length_drop, HL.out]
      have HLT : Hid (xs[k] < ys[k] → valD xs < valD ys) := Lib.hid fun h => by
        rw [hsx, hsy, hpre.out]
        exact valD_less (fun d hd => HX.out d (List.mem_of_mem_drop hd)) hdl h
      have HGT : Hid (ys[k] < xs[k] → valD ys < valD xs) := Lib.hid fun h => by
        rw [hsx, hsy, hpre.out]
        exact valD_less (fun d hd => HY.out d (List.mem_of_mem_drop hd)) hdl.symm h
      clear hsx hsy hdl
      generalize xs[k] = A at *
      generalize ys[k] = B at *
      by_cases heq : A = B
      · have hne : ((A : Int) != (B : Int)) = false := by rw [bne_eq_false_iff_eq]; omega
        have HE := Lib.hid heq; clear heq
        go_wp2_with fail
        (refine wp_region_quiet_lit (by kernel_rfl) (by kernel_rfl) ?_; (repeat (first | go_big_quiet_skip | (go_big_quiet_want; go_big_quiet_op; (try go_bits); first | go_big_quiet_on | go_big_quiet_call (fail)))); refine wpQuiet_nil ?_; intro _ hw'; obtain ⟨nq, hw''⟩ := hw'; subst hw'')
        rw [World.drewN_drewN]
        go_wp2_with fail
        go_roundg (xs.length - (k + 1))
        case rel => exact ⟨k + 1, m + nq, Lib.hid ⟨by omega, rfl⟩, by go_num, rfl, Lib.hid (HT.out HE.out)⟩
        case measure => omega
      · have hne : ((A : Int) != (B : Int)) = true := by rw [bne_iff_ne]; omega
        by_cases hAB : A < B
        · have hlt3 : (A : Int) < (B : Int) := by omega
          have HR := Lib.hid (HLT.out hAB)
          clear heq hAB
          go_wp2_with fail
          (refine wp_region_quiet_lit (by kernel_rfl) (by kernel_rfl) ?_; (repeat (first | go_big_quiet_skip | (go_big_quiet_want; go_big_quiet_op; (try go_bits); first | go_big_quiet_on | go_big_quiet_call (fail)))); refine wpQuiet_nil ?_; intro _ hw'; obtain ⟨nq, hw''⟩ := hw'; subst hw'')
          rw [World.drewN_drewN]
          go_wp2_with fail
          (refine wp_region_quiet_lit (by kernel_rfl) (by kernel_rfl) ?_; (repeat (first | go_big_quiet_skip | (go_big_quiet_want; go_big_quiet_op; (try go_bits); first | go_big_quiet_on | go_big_quiet_call (fail)))); refine wpQuiet_nil ?_; intro _ hw'; obtain ⟨nq, hw''⟩ := hw'; subst hw'')
          rw [World.drewN_drewN]
          go_wp2_with fail
          go_ret
          exact ⟨ret_bool4 (decide_eq_true HR.out).symm, _, rfl⟩
        · have hlt3 : ¬ (A : Int) < (B : Int) := by omega
          have HR := Lib.hid (HGT.out (by omega))
          clear heq hAB
          go_wp2_with fail
          (refine wp_region_quiet_lit (by kernel_rfl) (by kernel_rfl) ?_; (repeat (first | go_big_quiet_skip | (go_big_quiet_want; go_big_quiet_op; (try go_bits); first | go_big_quiet_on | go_big_quiet_call (fail)))); refine wpQuiet_nil ?_; intro _ hw'; obtain ⟨nq, hw''⟩ := hw'; subst hw'')
          rw [World.drewN_drewN]
          go_wp2_with fail
          (refine wp_region_quiet_lit (by kernel_rfl) (by kernel_rfl) ?_; (repeat (first | go_big_quiet_skip | (go_big_quiet_want; go_big_quiet_op; (try go_bits); first | go_big_quiet_on | go_big_quiet_call (fail)))); refine wpQuiet_nil ?_; intro _ hw'; obtain ⟨nq, hw''⟩ := hw'; subst hw'')
          rw [World.drewN_drewN]
          go_wp2_with fail
          go_ret
          exact ⟨ret_bool4 (decide_eq_decide.2 ⟨fun h => absurd h (by omega), fun h => by have := HR.out; omega⟩), _, rfl⟩
    · go_wp2_with fail
      go_ret
      refine ⟨ret_bool4 ?_, m, rfl⟩
      have h1 := hpre.out
      have h2 := HL.out
      rw [List.take_of_length_le (by omega), List.take_of_length_le (by omega)] at h1
      subst h1
      exact (decide_eq_false (by omega)).symm

/-- Bytes as so many digits. -/
def wideL (b : List Nat) (K : Nat) : List Nat := (b ++ List.replicate K 0).take K
theorem wideL_length (b : List Nat) (K : Nat) : (wideL b K).length = K := by rw [wideL, List.length_take, List.length_append, List.length_replicate]; omega
theorem wideL_lt {b : List Nat} (K : Nat) (h : ∀ d ∈ b, d < 256) : ∀ d ∈ wideL b K, d < 256 := by
  intro d hd
  have := List.mem_of_mem_take hd
  rcases List.mem_append.1 this with h1 | h1
  · exact h d h1
  · rw [(List.mem_replicate.1 h1).2]; decide
theorem wideL_succ (b : List Nat) (K : Nat) : wideL b (K + 1) = wideL b K ++ [b.getD K 0] := by
  unfold wideL
  have h1 : K < (b ++ List.replicate (K + 1) 0).length := by rw [List.length_append, List.length_replicate]; omega
  rw [List.take_succ_eq_append_getElem h1]
  congr 1
  · rcases Nat.lt_or_ge K b.length with h | h
    · rw [List.take_append_of_le_length (by omega), List.take_append_of_le_length (by omega)]
    · rw [List.take_append, List.take_append, List.take_replicate, List.take_replicate]
      congr 2
      omega
  · congr 1
    rcases Nat.lt_or_ge K b.length with h | h
    · rw [List.getElem_append_left h]
      simp [List.getD, List.getElem?_eq_getElem h]
    · rw [List.getElem_append_right h]
      simp [List.getD, List.getElem?_eq_none h]

set_option maxRecDepth 100000 in
set_option maxHeartbeats 2000000 in
theorem rwide_calls {v : Value} {b : List Nat} {K : Nat} {F : List HP} {w : World} (hK : K ≤ 100000) (hb : ∀ d ∈ b, d < 256) (hrd : Reads F v b.length 1 (b.map bv)) (H : Sep w F) :
    Calls Try.prog 65 #[v, .int .i64 (K : Int)] w (Gives fun r w' => Sep w' (HP.row 3 1 r K ((wideL b K).map dv) :: F)) := by
  obtain ⟨a, cap, rfl⟩ := (hrd w H).form
  have H0 : Sep w (HP.row 3 1 (.slice none 0 0) 0 ((wideL b 0).map dv) :: F) := by
    rw [List.eq_nil_of_length_eq_zero (wideL_length b 0)]
    exact H.row_nil _ 1
  go_enter Try.func65, Try.ntmps65
  go_wp2_with fail
  go_loopg [5, 6] K (fun gk u j wr => ∃ t : Nat, Hid (t ≤ K ∧ gk = K - t) ∧ j = .int .i64 (t : Int) ∧ ∃ ua uc, u = .slice ua t uc ∧ Sep wr (HP.row 3 1 (.slice ua t uc) t ((wideL b t).map dv) :: F))
  case atStart => exact ⟨0, Lib.hid ⟨by omega, rfl⟩, rfl, none, 0, rfl, H0⟩
  case round =>
    clear H0 H
    obtain ⟨t, hq, rfl, ua, uc, rfl, Hr⟩ := hrel
    obtain ⟨q1, q2⟩ := hq.out
    clear hq
    by_cases ht : t < K
    · have hti : (t : Int) < (K : Int) := by omega
      have h63 : t + 1 ≤ maxLen := by unfold maxLen; omega
      have hby : (t + 1) * 8 ≤ 140737488355328 := by omega
      have hm : ∀ d, d = b.getD t 0 → (wideL b t).map dv ++ [.int .i64 (d : Int)] = (wideL b (t + 1)).map dv := fun d hd => by rw [wideL_succ, hd]; simp [dv]
      by_cases htb : t < b.length
      · obtain ⟨g, o, cp, he⟩ := (hrd _ Hr.tail).open (by omega)
        simp only [Value.slice.injEq, true_and] at he
        obtain ⟨rfl, rfl⟩ := he
        have kb := (hrd _ Hr.tail).cell t (bv_at b t htb)
        have hm2 := hm b[t] (by simp [List.getD, List.getElem?_eq_getElem htb])
        have htbi : (t : Int) < (b.length : Int) := by omega
        have hdl := hb _ (List.getElem_mem htb)
        generalize b[t] = d at *
        have hwr : IntKind.i64.wrap (d : Int) = (d : Int) := IntWalk.i64_in _ (by omega)
        have HA := Hr.alloc #[.int .i64 (d : Int)] 3
        have hrn := rd_new HA
        have HB := HA.swap
        have HM := Lib.hid hm2
        clear hm hm2 HA
        go_wp2_with ((at_builtin; go_must (refine wpList_append_src rfl (.tmp 16) (.tmp 22) 22 rfl 3 (.int .i64 0) 1 8 Try.underlying22 info_iv rfl (by decide) (.slice ua t uc) t _ rfl HB (.slice (some ⟨wr.heap.size, 0, none⟩) 1 1) 1 [.int .i64 (d : Int)] rfl hrn (by intro u hu; simp at hu; subst hu; rfl) h63 hby ?_); intro v7 w7 H7; obtain ⟨va, vc, hv7⟩ := H7.row_form; subst hv7))
        rw [HM.out] at H7
        go_roundg (K - (t + 1))
        case rel => exact ⟨t + 1, Lib.hid ⟨by omega, rfl⟩, by go_num, va, vc, rfl, H7.swap.tail⟩
        case measure => omega
      · have hm2 := hm 0 (by simp [List.getD, List.getElem?_eq_none (Nat.le_of_not_lt htb)])
        have htbi : ¬ (t : Int) < (b.length : Int) := by omega
        have HA := Hr.alloc #[.int .i64 0] 3
        have hrn := rd_new HA
        have HB := HA.swap
        have hm3 : (wideL b t).map dv ++ [.int .i64 0] = (wideL b (t + 1)).map dv := hm2
        have HM := Lib.hid hm3
        clear hm hm2 hm3 HA
        go_wp2_with ((at_builtin; go_must (refine wpList_append_src rfl (.tmp 24) (.tmp 25) 22 rfl 3 (.int .i64 0) 1 8 Try.underlying22 info_iv rfl (by decide) (.slice ua t uc) t _ rfl HB (.slice (some ⟨wr.heap.size, 0, none⟩) 1 1) 1 [.int .i64 0] rfl hrn (by intro u hu; simp at hu; subst hu; rfl) h63 hby ?_); intro v7 w7 H7; obtain ⟨va, vc, hv7⟩ := H7.row_form; subst hv7))
        rw [HM.out] at H7
        go_roundg (K - (t + 1))
        case rel => exact ⟨t + 1, Lib.hid ⟨by omega, rfl⟩, by go_num, va, vc, rfl, H7.swap.tail⟩
        case measure => omega
    · obtain rfl : t = K := by omega
      go_wp2_with fail
      go_ret
      exact ⟨_, rfl, Hr⟩

end Go.Proofs.Ytglinpclcmmnbaa
