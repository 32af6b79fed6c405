/- coder, the reference: First, add, Come. -/
import Derived.Test.YtglinpclcmmnbaaCod7
import Derived.Test.YtglinpclcmmnbaaCells
namespace Go.Proofs.Ytglinpclcmmnbaa
open Go.RowKit Go.Shelf

/-- A digit. -/
def dv (d : Nat) : Value := .int .i64 (d : Int)
theorem dv_one (l : List Nat) : ∀ u ∈ l.map dv, u.oneCell' = true := by
  intro u hu; simp only [List.mem_map] at hu; obtain ⟨d, -, rfl⟩ := hu; rfl
theorem dv_at {l : List Nat} {i d : Nat} (h : l[i]? = some d) : (l.map dv)[i]? = some (.int .i64 (d : Int)) := by rw [List.getElem?_map, h]; rfl

theorem add_next {L N t : Nat} : (L % 256 ^ (t + 1) + N) / 256 ^ (t + 1) = ((L % 256 ^ t + N) / 256 ^ t + L / 256 ^ t % 256) / 256 := by
  have hp : 0 < 256 ^ t := Nat.pow_pos (by decide)
  rw [Nat.pow_succ, Nat.mod_mul, ← Nat.div_div_eq_div_mul]
  congr 1
  rw [show L % 256 ^ t + 256 ^ t * (L / 256 ^ t % 256) + N = (L % 256 ^ t + N) + 256 ^ t * (L / 256 ^ t % 256) by omega, Nat.add_mul_div_left _ _ hp]
theorem add_digit {L N t : Nat} : (L + N) / 256 ^ t = L / 256 ^ t + (L % 256 ^ t + N) / 256 ^ t := by
  have hp : 0 < 256 ^ t := Nat.pow_pos (by decide)
  have := Nat.div_add_mod L (256 ^ t)
  conv => lhs; rw [← this]
  rw [show 256 ^ t * (L / 256 ^ t) + L % 256 ^ t + N = (L % 256 ^ t + N) + 256 ^ t * (L / 256 ^ t) by omega, Nat.add_mul_div_left _ _ hp, Nat.add_comm]
theorem digs_one_add (t S : Nat) : digs (t + 1) S = [S / 256 ^ t % 256] ++ digs t S := by
  have := digs_add 1 t S
  rw [Nat.add_comm 1 t] at this
  exact this

set_option maxRecDepth 100000 in
set_option maxHeartbeats 2000000 in
theorem radd_calls {v : Value} {K L N : Nat} {F : List HP} {w : World} (hK : K ≤ 100000) (hK0 : K ≠ 0) (hN : N ≤ 1099511627776) (hrd : Reads F v K 1 ((digs K L).map dv)) (H : Sep w F) :
    Calls Try.prog 58 #[v, .int .i64 (N : Int)] w (Gives fun r w' => Sep w' (HP.row 3 1 r K ((digs K (L + N)).map dv) :: F)) := by
  obtain ⟨a, cap, rfl⟩ := (hrd w H).form
  have h63 : 0 + K ≤ maxLen := by unfold maxLen; omega
  have hby : (0 + K) * 8 ≤ 140737488355328 := by omega
  have HE : Sep (w.alloc (.cells #[] 3)) (HP.row 3 1 (.slice (some ⟨w.heap.size, 0, none⟩) 0 0) 0 [] :: F) :=
    Sep.row_shut (H.alloc #[] 3) (Nat.le_refl _) (by unfold maxLen; omega) rfl rfl
  have hrd1 := hrd _ HE.tail
  go_enter Try.func58, Try.ntmps58
  go_wp2_with ((at_builtin; go_must (refine wpList_append_src rfl (.tmp 7) (.tmp 8) 22 rfl 3 (.int .i64 0) 1 8 Try.underlying22 info_iv rfl (by decide) (.slice (some ⟨w.heap.size, 0, none⟩) 0 0) 0 [] rfl HE (.slice a K cap) _ _ rfl hrd1 (dv_one _) h63 hby ?_); intro v3 w3 H3; rw [Nat.zero_add, List.nil_append] at H3; obtain ⟨va, vc, hv3⟩ := H3.row_form; subst hv3))
  obtain ⟨g, cp, _, hsv, -⟩ := H3.row_open hK0
  simp only [Value.slice.injEq, true_and] at hsv
  obtain ⟨rfl, rfl⟩ := hsv
  clear HE hrd1 hrd H
  go_loopg [1, 6] K (fun gk nv j wr => ∃ (t n : Nat), Hid (t ≤ K ∧ gk = K - t ∧ n = (L % 256 ^ t + N) / 256 ^ t ∧ n ≤ 1099511627776) ∧ nv = .int .i64 (n : Int) ∧ j = .int .i64 ((K : Int) - 1 - (t : Int)) ∧ Sep wr (HP.row 3 1 (.slice (some ⟨g, 0, none⟩) K vc) K ((digs (K - t) (L / 256 ^ t) ++ digs t (L + N)).map dv) :: F))
  case atStart => exact ⟨0, N, Lib.hid ⟨by omega, rfl, by simp [Nat.mod_one], hN⟩, rfl, by go_num, by simpa [digs] using H3⟩
  case round =>
    clear H3
    obtain ⟨t, n, hq, rfl, rfl, Hr⟩ := hrel
    obtain ⟨q1, q2, q3, q4⟩ := hq.out
    clear hq
    by_cases hn0 : n = 0
    · subst hn0
      have hend : (digs (K - t) (L / 256 ^ t) ++ digs t (L + N)) = digs K (L + N) := by
        have h1 := digs_add (K - t) t (L + N)
        rw [show K - t + t = K by omega, add_digit, ← q3, Nat.add_zero] at h1
        exact h1.symm
      rw [hend] at Hr
      clear hend q3
      by_cases ht : t < K
      · have hge : (0 : Int) ≤ (K : Int) - 1 - (t : Int) := by omega
        go_wp2_with fail
        go_ret
        exact ⟨_, rfl, Hr⟩
      · have hge : ¬ (0 : Int) ≤ (K : Int) - 1 - (t : Int) := by omega
        go_wp2_with fail
        go_ret
        exact ⟨_, rfl, Hr⟩
    by_cases ht : t < K
    · obtain ⟨j, hj⟩ : ∃ j : Nat, j = K - t - 1 := ⟨_, rfl⟩
      have hji : (K : Int) - 1 - (t : Int) = (j : Int) := by omega
      obtain ⟨d, hd⟩ : ∃ d, d = L / 256 ^ t % 256 := ⟨_, rfl⟩
      have hsp := digs_split ht L
      rw [← hd, ← hj] at hsp
      have hlen : (digs j (L / 256 ^ (t + 1))).length = j := digs_length _ _
      have hget : ((digs (K - t) (L / 256 ^ t) ++ digs t (L + N)).map dv)[j]? = some (.int .i64 (d : Int)) := by
        rw [hsp, List.append_assoc]
        exact dv_at (by rw [List.getElem?_append_right (by omega), hlen, Nat.sub_self]; rfl)
      have hdig : (L + N) / 256 ^ t % 256 = (n + d) % 256 := by rw [add_digit, ← q3, hd]; omega
      have hset : ((digs (K - t) (L / 256 ^ t) ++ digs t (L + N)).map dv).set j (.int .i64 (((n + d) % 256 : Nat) : Int)) = (digs (K - (t + 1)) (L / 256 ^ (t + 1)) ++ digs (t + 1) (L + N)).map dv := by
        rw [hsp, List.append_assoc, List.map_append, List.set_append_right _ _ (by rw [List.length_map, hlen]; exact Nat.le_refl _), List.length_map, hlen, Nat.sub_self, digs_one_add t, hdig, show K - (t + 1) = j by omega]
        simp [dv]
      have hnext : (n + d) / 256 = (L % 256 ^ (t + 1) + N) / 256 ^ (t + 1) := by rw [add_next, ← q3, hd]
      have hdl : d < 256 := by omega
      have c1 := Hr.row_cell j hget
      have f1 := Hr.row_froz j
      have H2 := Hr.row_set j (.int .i64 (((n + d) % 256 : Nat) : Int))
      rw [hset] at H2
      have e1 : (((n + d) % 256 : Nat) : Int) = ((n : Int) + (d : Int)) % 256 := by omega
      rw [e1] at H2
      rw [hji]
      have HJ := Lib.hid hji
      have HN := Lib.hid hnext
      have hjk : (j : Int) < (K : Int) := by omega
      have hn1 : (0 : Int) < (n : Int) := by omega
      clear hget hset hsp hd hj hji hlen hdig hnext e1 q3
      go_wp2_with fail
      go_roundg (K - (t + 1))
      case rel => exact ⟨t + 1, (n + d) / 256, Lib.hid ⟨by omega, rfl, HN.out, by omega⟩, by go_num, by have := HJ.out; go_num, H2⟩
      case measure => omega
    · obtain rfl : t = K := by omega
      have hge : ¬ (0 : Int) ≤ (t : Int) - 1 - (t : Int) := by omega
      rw [Nat.sub_self] at Hr
      clear q3
      go_wp2_with fail
      go_ret
      exact ⟨_, rfl, by simpa [digs] using Hr⟩

theorem load_iva {w : World} {b : Nat} {x y : Value} {F : List HP} (H : Sep w (HP.pt b #[x, y] 53 :: F)) : (loadVar 53 ⟨b, 0, none⟩).run Try.prog w = .ok (.agg #[x, y]) w :=
  run_loadVar_row w b 53 53 #[x, y] (0, 0) _ H.heap Try.underlying53 rfl (by kernel_rfl)

set_option maxRecDepth 100000 in
theorem first_calls {F : List HP} {w : World} (H : Sep w F) :
    Calls Try.prog 37 #[] w (Gives fun r w' => ∃ v, r = .agg #[v, .int .i64 4294967296] ∧ Sep w' (HP.row 3 1 v 4 ((digs 4 0).map dv) :: F)) := by
  have H0 := H.alloc #[.slice (some ⟨w.heap.size + 1, 0, none⟩) 4 4, .int .i64 4294967296] 53
  have hz : (w.alloc (.cells #[.slice (some ⟨w.heap.size + 1, 0, none⟩) 4 4, .int .i64 4294967296] 53)).heap.size = w.heap.size + 1 := World.size_alloc _ _
  have H1 := H0.alloc #[.int .i64 0, .int .i64 0, .int .i64 0, .int .i64 0] 3
  rw [hz] at H1
  have H2 : Sep _ (HP.row 3 1 (.slice (some ⟨w.heap.size + 1, 0, none⟩) 4 4) 4 ((digs 4 0).map dv) :: _) := Sep.row_shut H1 (Nat.le_refl _) (by unfold maxLen; omega) rfl rfl
  have hl := load_iva H2.swap
  clear hz H0 H1
  go_enter Try.func37, Try.ntmps37
  go_wp2_with fail
  refine bodyPost_ret (results_cell1 rfl rfl hl) rfl ?_
  exact ⟨_, rfl, _, rfl, H2.swap.tail⟩

theorem digs_shl (m L : Nat) : digs (m + 1) (L * 256) = digs m L ++ [0] := by
  rw [digs, Nat.mul_div_cancel _ (by decide), Nat.mul_mod_left]

set_option maxRecDepth 100000 in
set_option maxHeartbeats 8000000 in
theorem rcome_calls {v sv : Value} {x : Nat × Nat × Nat} {s : Nat} {cs : List Int} {F : List HP} {w : World} (hI : IvI x) (hk : x.1 ≤ 1000) (hv : Vt cs) (hs : s < cs.length)
    (hrd : Reads F v (x.1 + 4) 1 ((digs (x.1 + 4) x.2.1).map dv)) (hrc : Reads F sv cs.length 1 (cs.map iv)) (H : Sep w F) :
    Calls Try.prog 40 #[.agg #[v, .int .i64 (x.2.2 : Int)], .agg #[sv, .int .i64 (s : Int)]] w (Gives fun r w' => ∃ u, r = .agg #[u, .int .i64 ((stepI x cs s).2.2 : Int)] ∧ Sep w' (HP.row 3 1 u ((stepI x cs s).1 + 4) ((digs ((stepI x cs s).1 + 4) (stepI x cs s).2.1).map dv) :: F)) := by
  obtain ⟨k, L, R⟩ := x
  simp only at hk hrd
  have hI : Iv k L R := hI
  obtain ⟨a, cap, rfl⟩ := (hrd w H).form
  obtain ⟨ac, capc, rfl⟩ := (hrc w H).form
  obtain ⟨p1, p2, -, -⟩ := pt_spec hv hs hI.1
  obtain ⟨s1, s2, s3⟩ := shS_spec p2 (by have := hI.2.1; omega)
  have hIR := hI.2.1
  have hIR1 := hI.1
  have hv0 := hv
  obtain ⟨v1, v2, v3, v4⟩ := hv0
  have h1 := isum_take_succ hs
  have h0 := isum_take_nonneg v3 s
  have hle := isum_take_le v3 (s + 1)
  have hx := v3 cs[s] (List.getElem_mem hs)
  have hpos := isum_nonneg v3
  have hg : cs.getD s 0 = cs[s] := getD_get hs
  have eF : ptF cs s R = (isum (cs.take s)).toNat * (R / (isum cs).toNat) := rfl
  have eW : ptW cs s R = if s + 1 = cs.length then R - ptF cs s R else (cs.getD s 0).toNat * (R / (isum cs).toNat) := rfl
  rw [hg] at eW
  -- the three blocks
  have H1 := H.alloc #[.slice a (k + 4) cap, .int .i64 (R : Int)] 53
  have hz1 : (w.alloc (.cells #[.slice a (k + 4) cap, .int .i64 (R : Int)] 53)).heap.size = w.heap.size + 1 := World.size_alloc _ _
  have H2 := H1.alloc #[.slice ac cs.length capc, .int .i64 (s : Int)] 58
  have hz2 : ((w.alloc (.cells #[.slice a (k + 4) cap, .int .i64 (R : Int)] 53)).alloc (.cells #[.slice ac cs.length capc, .int .i64 (s : Int)] 58)).heap.size = w.heap.size + 2 := by rw [World.size_alloc, hz1]
  have H3 := H2.alloc #[.slice none 0 0, .int .i64 0] 53
  rw [hz1, hz2] at H3
  have SM1 := rsum_calls (k := cs.length) (Nat.le_refl _) v3 (by omega) (hrc _ (Sep.drop_left (S := [_, _, _]) H3))
  have SM2 := rsum_calls (k := s) (Nat.le_of_lt hs) v3 (by omega) (hrc _ (Sep.drop_left (S := [_, _, _]) H3))
  rw [List.take_length] at SM1
  have hcell := (hrc _ (Sep.drop_left (S := [_, _, _]) H3))
  obtain ⟨gc, oc, cc, he⟩ := hcell.open (by omega)
  simp only [Value.slice.injEq, true_and] at he
  obtain ⟨rfl, rfl⟩ := he
  have kc := hcell.cell s (iv_get hs)
  have AD : Hid (∀ (N : Nat), N ≤ 1099511627776 → ∀ (A B C : HP) (w' : World), Sep w' (A :: B :: C :: F) → Calls Try.prog 58 #[.slice a (k + 4) cap, .int .i64 (N : Int)] w' (Gives fun r w2 => Sep w2 (HP.row 3 1 r (k + 4) ((digs (k + 4) (L + N)).map dv) :: A :: B :: C :: F))) := Lib.hid fun N hN A B C w' h => radd_calls (by omega) (by omega) hN hrd.cons.cons.cons h
  have b0 := H3.tail.tail.cell 0 rfl
  have b1 := H3.tail.tail.cell 1 rfl
  have b2 := H3.tail.cell 0 rfl
  have b3 := H3.tail.cell 1 rfl
  clear hcell H1 H2 H hrc hz1 hz2 hrd
  go_enter Try.func40, Try.ntmps40
  go_wp2_with fail
  generalize ((w.alloc (.cells #[.slice a (k + 4) cap, .int .i64 (R : Int)] 53)).alloc (.cells #[.slice (some ⟨gc, oc, none⟩) cs.length capc, .int .i64 (s : Int)] 58)).alloc (.cells #[.slice none 0 0, .int .i64 0] 53) = W at *
  generalize w.heap.size + 2 = n2 at *
  generalize w.heap.size + 1 = n1 at *
  generalize w.heap.size = n0 at *
  have hli := last_iff v3 hs
  generalize hpf : ptF cs s R = pf at *
  generalize hpw : ptW cs s R = pw at *
  have HPF := Lib.hid hpf
  have HPW := Lib.hid hpw
  clear hpf hpw
  rw [h1] at hle hli
  generalize isum (cs.take s) = c at *
  generalize cs[s] = f at *
  generalize isum cs = n at *
  obtain ⟨c, rfl⟩ := Int.eq_ofNat_of_zero_le h0
  obtain ⟨f, rfl⟩ := Int.eq_ofNat_of_zero_le (show 0 ≤ f by omega)
  obtain ⟨n, rfl⟩ := Int.eq_ofNat_of_zero_le (show 0 ≤ n by omega)
  simp only [Int.toNat_natCast] at eF eW
  have hn : 0 < n := by omega
  have hnr : n * (R / n) ≤ R := Nat.mul_div_le _ _
  have hcf : (c + f) * (R / n) ≤ n * (R / n) := Nat.mul_le_mul_right _ (by omega)
  rw [Nat.add_mul] at hcf
  have q1 : (n : Int) ≠ 0 := by omega
  have q2 : ¬ n = 0 := by omega
  have hdl : R / n ≤ 4294967296 := Nat.le_trans (Nat.div_le_self _ _) hIR
  have hdv : (R : Int) / (n : Int) = ((R / n : Nat) : Int) := rfl
  have hdt : (R : Int).tdiv (n : Int) = ((R / n : Nat) : Int) := rfl
  generalize R / n = r at *
  have hm1 : (c : Int) * (r : Int) = ((c * r : Nat) : Int) := by simp
  have hm2 : (f : Int) * (r : Int) = ((f * r : Nat) : Int) := by simp
  generalize c * r = p1' at *
  generalize f * r = p2' at *
  subst eF
  have hp12 : pf + p2' ≤ R := by omega
  have EW := Lib.hid eW
  have HAD := AD.out pf (by omega) _ _ _ _ H3
  have HV := Lib.hid hv
  clear eW hnr hcf h1 hg hli hle v3 hv AD
  refine SM1.mono ?_
  rintro _ _ ⟨rfl, rfl⟩
  go_wp2_with fail
  refine SM2.mono ?_
  rintro _ _ ⟨rfl, rfl⟩
  have hbr : ((cs.length : Int) - 1 = (s : Int) ∧ (R : Int) - (pf : Int) = (pw : Int)) ∨ (¬ (s : Int) = (cs.length : Int) - 1 ∧ pw = p2') := by
    have hew := EW.out
    by_cases hl : s + 1 = cs.length
    · rw [if_pos hl] at hew
      exact .inl ⟨by omega, by omega⟩
    · rw [if_neg hl] at hew
      exact .inr ⟨by omega, hew⟩
  rcases hbr with ⟨hb, hsub⟩ | ⟨hb, hpp⟩
  rotate_left
  subst hpp
  rotate_left
  all_goals (
    go_wp2_with fail
    refine HAD.mono ?_
    rintro _ W2 ⟨r2, rfl, HA⟩
    obtain ⟨ra, rc, rfl⟩ := HA.row_form
    clear HAD SM1 SM2 b0 b1 b2 b3 kc H3
    have HO := HA.alloc #[.slice ra (k + 4) rc, .int .i64 (pw : Int)] 53
    go_wp2_with fail
    generalize W2.alloc (.cells #[.slice ra (k + 4) rc, .int .i64 (pw : Int)] 53) = W3 at *
    generalize W2.heap.size = ob at *
    clear HA
    go_loopg [] (shS pw) (fun gk wr => ∃ m L' R' : Nat, Hid (gk = shS R' ∧ 1 ≤ R' ∧ R' ≤ 4294967296 ∧ m + shS R' = k + shS pw ∧ L' * 256 ^ shS R' = (L + pf) * 256 ^ shS pw ∧ R' * 256 ^ shS R' = pw * 256 ^ shS pw) ∧ ∃ a' c', Sep wr (HP.pt ob #[.slice a' (m + 4) c', .int .i64 (R' : Int)] 53 :: HP.row 3 1 (.slice a' (m + 4) c') (m + 4) ((digs (m + 4) L').map dv) :: HP.pt n2 #[.slice none 0 0, .int .i64 0] 53 :: HP.pt n1 #[.slice (some ⟨gc, oc, none⟩) cs.length capc, .int .i64 (s : Int)] 58 :: HP.pt n0 #[.slice a (k + 4) cap, .int .i64 (R : Int)] 53 :: F))
    case atStart => exact ⟨k, L + pf, pw, Lib.hid ⟨rfl, p2, by omega, rfl, rfl, rfl⟩, _, _, HO⟩
    case round =>
      clear HO
      obtain ⟨m, L', R', hq, a', c', Hr⟩ := hrel
      obtain ⟨q1, q2, q3, q4, q5, q6⟩ := hq.out
      clear hq
      have d0 := Hr.cell 0 rfl
      have d1 := Hr.cell 1 rfl
      by_cases hlt : R' < 16777216
      · have hst := shS_step hlt (by omega)
        have hp5 : L' * 256 ^ shS R' = L' * 256 * 256 ^ shS (R' * 256) := by rw [hst, Nat.pow_succ, Nat.mul_comm (256 ^ _) 256, Nat.mul_assoc]
        have hp6 : R' * 256 ^ shS R' = R' * 256 * 256 ^ shS (R' * 256) := by rw [hst, Nat.pow_succ, Nat.mul_comm (256 ^ _) 256, Nat.mul_assoc]
        have HN : Hid (m + 1 + shS (R' * 256) = k + shS pw ∧ L' * 256 * 256 ^ shS (R' * 256) = (L + pf) * 256 ^ shS pw ∧ R' * 256 * 256 ^ shS (R' * 256) = pw * 256 ^ shS pw ∧ gk = shS (R' * 256) + 1) := Lib.hid ⟨by omega, by rw [← hp5]; exact q5, by rw [← hp6]; exact q6, by omega⟩
        have hk1 : m ≤ 1010 := by omega
        have hR2 : (R' : Int) < 16777216 := by omega
        have h63 : m + 4 + 1 ≤ maxLen := by unfold maxLen; omega
        have hby : (m + 4 + 1) * 8 ≤ 140737488355328 := by omega
        clear hst hp5 hp6 q1 q4 q5 q6
        have HA := Hr.alloc #[.int .i64 0] 3
        have hrn := rd_new HA
        have e0 := HA.tail.cell 0 rfl
        have HB := HA.rot3
        have hm : ((digs (m + 4) L').map dv ++ [.int .i64 0]) = (digs (m + 1 + 4) (L' * 256)).map dv := by
          rw [show m + 1 + 4 = (m + 4) + 1 by omega, digs_shl]; simp [dv]
        have HM := Lib.hid hm
        clear hm HA
        go_wp2_with ((at_builtin; go_must (refine wpList_append_src rfl (.tmp 58) (.tmp 59) 22 rfl 3 (.int .i64 0) 1 8 Try.underlying22 info_iv rfl (by decide) (.slice a' (m + 4) c') (m + 4) _ rfl HB (.slice (some ⟨wr.heap.size, 0, none⟩) 1 1) 1 [.int .i64 0] rfl hrn (by intro u hu; simp at hu; subst hu; rfl) h63 hby ?_); intro v7 w7 H7; obtain ⟨va, vc, hv7⟩ := H7.row_form; subst hv7; have f0 := H7.tail.tail.froz 0; have g0 := H7.tail.tail.cell 0 rfl; have H8 := H7.rot3.set 0 (.slice va (m + 4 + 1) vc); have i1 := H8.cell 1 rfl; have j1 := H8.froz 1))
        have H9 := H8.set 1 (.int .i64 ((R' : Int) * 256))
        rw [HM.out] at H9
        go_roundg (shS (R' * 256))
        case rel =>
          obtain ⟨x1, x2, x3, x4⟩ := HN.out
          exact ⟨m + 1, L' * 256, R' * 256, Lib.hid ⟨rfl, by omega, by omega, x1, x2, x3⟩, va, vc, H9.rot3.tail⟩
        case measure => have := HN.out; omega
      · have h0 : shS R' = 0 := by unfold shS; rw [if_pos (by omega)]
        rw [h0] at q4 q5 q6
        simp only [Nat.add_zero, Nat.pow_zero, Nat.mul_one] at q4 q5 q6
        have hR2 : ¬ (R' : Int) < 16777216 := by omega
        have HQ := Lib.hid (And.intro q4 (And.intro q5 q6))
        have HP2 := Hr.rot3
        have g0 := HP2.cell 0 rfl
        have z0 := HP2.froz 0
        have HS1 := HP2.set 0 (.slice a' (m + 4) c')
        have g1 := HS1.cell 1 rfl
        have z1 := HS1.froz 1
        have HS2 := HS1.set 1 (.int .i64 (R' : Int))
        have hl := load_iva HS2
        clear h0 q4 q5 q6 q1
        go_wp2_with fail
        refine bodyPost_ret (results_cell1 rfl rfl hl) rfl ?_
        obtain ⟨x1, x2, x3⟩ := HQ.out
        refine ⟨_, rfl, .slice a' (m + 4) c', ?_, ?_⟩
        · simp only [stepI]
          rw [HPW.out, ← x3]
        · simp only [stepI]
          rw [HPW.out, HPF.out, ← x2, ← x1]
          exact HS2.tail.tail.swap.tail.swap.tail)

end Go.Proofs.Ytglinpclcmmnbaa
