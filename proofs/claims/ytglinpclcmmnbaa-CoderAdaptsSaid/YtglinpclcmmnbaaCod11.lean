/- coder, the reference: In. -/
import Derived.Test.YtglinpclcmmnbaaCod10
namespace Go.Proofs.Ytglinpclcmmnbaa
open Go.RowKit Go.Shelf

theorem wpList_append_want {P : Program} {w : World} {ops : Array Oper} {rest : List Oper} {o : Oper} {a : Act} {Q : Exit → Act → World → Prop} (hw : Region.wanted o (yielded ops a.tmps) = true) (s x : Operand) (t : TypeId)
    (ho : o.op = .call { callee := .builtin .append, args := #[s, x], argTypes := #[t, t] })
    (e : TypeId) (z : Value) (size bytes : Nat) (ht : P.underlying t = some (.slice e)) (hinfo : (P.info? e).map (fun i => (i.zero, i.size, i.bytes)) = some (some z, size, bytes)) (hzs : z.cells.size = size) (hsz : 0 < size)
    (v : Value) (n : Nat) (xs : List Value) {R : List HP} (hs : a.eval s = v) (H : Sep w (HP.row e size v n xs :: R))
    (sv : Value) (m : Nat) (hm : m ≠ 0) (news : List Value) (hx : a.eval x = sv) (hrd : RdS w sv m size news) (h1 : ∀ u ∈ news, u.oneCell' = true)
    (h63 : n + m ≤ maxLen) (hbytes : (n + m) * bytes ≤ 140737488355328)
    (h : ∀ v' w', Sep w' (HP.row e size v' (n + m) (xs ++ news) :: R) → wpList P ops Q rest (a.put o.dst v') w') : wpList P ops Q (o :: rest) a w := by
  obtain ⟨i, hi, hz, hs1, hb⟩ := info_parts hinfo
  rcases hrd.2 with ⟨-, h0⟩ | ⟨ad, cap, rfl, hh⟩
  · exact absurd h0 hm
  · refine wpList_step fun K hK => ?_
    rw [if_pos hw]
    exact wp_append_sep s x t ho e i z size bytes ht hi hz hs1 hb hzs hsz v n xs hs H ad m cap news hx hrd.1 hh h1 h63 hbytes fun v' w' h2 => hK _ _ (h v' w' h2)
theorem digs_zero_cons {k L : Nat} (h : L < 256 ^ k) : digs (1 + k) L = 0 :: digs k L := by
  rw [digs_add 1 k, Nat.div_eq_of_lt h]; rfl
theorem valD_cons_zero (l : List Nat) : valD (0 :: l) = valD l := by
  have := valD_append [0] l
  rw [show valD [0] = 0 by rfl, Nat.zero_mul, Nat.zero_add] at this
  exact this
/-- Does a number of so many digits lie in an interval? -/
def InI (x : Nat × Nat × Nat) (b : List Nat) : Prop := x.2.1 ≤ valD (wideL b (x.1 + 4)) ∧ valD (wideL b (x.1 + 4)) < x.2.1 + x.2.2
instance (x : Nat × Nat × Nat) (b : List Nat) : Decidable (InI x b) := by unfold InI; exact inferInstance

set_option maxRecDepth 100000 in
set_option maxHeartbeats 8000000 in
theorem rin_calls {v vb : Value} {x : Nat × Nat × Nat} {b : List Nat} {F : List HP} {w : World} (hI : IvI x) (hk : x.1 ≤ 1000) (hbl : ∀ d ∈ b, d < 256)
    (hrd : Reads F v (x.1 + 4) 1 ((digs (x.1 + 4) x.2.1).map dv)) (hrb : Reads F vb b.length 1 (b.map bv)) (H : Sep w F) :
    Calls Try.prog 62 #[.agg #[v, .int .i64 (x.2.2 : Int)], vb] w fun e w' => e = .returned (.bool (decide (InI x b))) ∧ Sep w' F := by
  obtain ⟨k, L, R⟩ := x
  simp only at hk hrd
  obtain ⟨i1, i2, i3⟩ : Iv k L R := hI
  obtain ⟨a, cap, rfl⟩ := (hrd w H).form
  obtain ⟨ba, bc, rfl⟩ := (hrb w H).form
  have hdec : decide (InI (k, L, R) b) = (!decide (valD (wideL b (k + 4)) < L) && decide (valD (wideL b (k + 4)) < L + R)) := by
    unfold InI
    rw [← decide_not, ← Bool.decide_and]
    exact decide_eq_decide.2 (by simp only; omega)
  obtain ⟨rv, hrv⟩ : ∃ rv, rv = decide (InI (k, L, R) b) := ⟨_, rfl⟩
  rw [← hrv]
  rw [hdec] at hrv
  have HRV := Lib.hid hrv
  clear hrv
  have hwl := wideL_length b (k + 4)
  have hwlt := wideL_lt (k + 4) hbl
  have H0 := H.alloc #[.slice a (k + 4) cap, .int .i64 (R : Int)] 53
  have WD := rwide_calls (K := k + 4) (by omega) hbl (Reads.cons (X := HP.pt w.heap.size #[.slice a (k + 4) cap, .int .i64 (R : Int)] 53) hrb) H0
  generalize hW : wideL b (k + 4) = W at *
  clear hW hdec hrb H hbl
  have c0 := H0.cell 0 rfl
  go_enter Try.func62, Try.ntmps62
  go_wp2_with fail
  refine WD.mono ?_
  rintro _ w1 ⟨r1, rfl, H1⟩
  obtain ⟨ra, rc, rfl⟩ := H1.row_form
  clear WD c0 H0
  generalize w.heap.size = n0 at *
  have c0 := H1.tail.cell 0 rfl
  have c1 := H1.tail.cell 1 rfl
  have HN0 := H1.drew.alloc #[.int .i64 0] 3
  have HN : Sep _ (HP.row 3 1 (.slice (some ⟨w1.heap.size, 0, none⟩) 1 1) 1 [.int .i64 0] :: _) := Sep.row_shut HN0 (Nat.le_refl _) (by unfold maxLen; omega) rfl rfl
  have d0 := HN.tail.tail.cell 0 rfl
  have d1 := HN.tail.tail.cell 1 rfl
  have h63 : 1 + (k + 4) ≤ maxLen := by unfold maxLen; omega
  have hby : (1 + (k + 4)) * 8 ≤ 140737488355328 := by omega
  have hrdN := (Reads.append hrd [_, _, _]) _ HN
  have hm : [Value.int .i64 0] ++ (digs (k + 4) L).map dv = (digs (1 + (k + 4)) L).map dv := by rw [digs_zero_cons (by omega)]; simp [dv]
  have HM := Lib.hid hm
  have AD : Hid (∀ (va : Option Addr) (vc : Nat) (G : List HP) (w' : World), Sep w' (HP.row 3 1 (.slice va (1 + (k + 4)) vc) (1 + (k + 4)) ((digs (1 + (k + 4)) L).map dv) :: G) → Calls Try.prog 58 #[.slice va (1 + (k + 4)) vc, .int .i64 (R : Int)] w' (Gives fun r w2 => Sep w2 (HP.row 3 1 r (1 + (k + 4)) ((digs (1 + (k + 4)) (L + R)).map dv) :: HP.row 3 1 (.slice va (1 + (k + 4)) vc) (1 + (k + 4)) ((digs (1 + (k + 4)) L).map dv) :: G))) := Lib.hid fun va vc G w' h => radd_calls (by omega) (by omega) (by omega) Reads.row h
  have HRD := Lib.hid hrd
  clear hm hrd
  go_wp2_with fail
  go_region_held3 (fun w' => w'.cell? ⟨n0, 0, none⟩ = some (.slice a (k + 4) cap) ∧ w'.cell? ⟨n0, 1, none⟩ = some (.int .i64 (R : Int))) (first | exact ⟨c0, c1⟩ | exact ⟨d0, d1⟩ | exact ⟨H7.tail.tail.cell 0 rfl, H7.tail.tail.cell 1 rfl⟩ | exact ⟨H8.tail.tail.tail.cell 0 rfl, H8.tail.tail.tail.cell 1 rfl⟩) (first | (refine step_append_src rfl (.tmp 12) (.tmp 14) 22 rfl 3 (.int .i64 0) 1 8 Try.underlying22 info_iv rfl (by decide) (.slice (some ⟨w1.heap.size, 0, none⟩) 1 1) 1 _ rfl HN (.slice a (k + 4) cap) (k + 4) _ rfl hrdN (dv_one _) h63 hby ?_; intro va vc w7 H7; rw [HM.out] at H7) | (go_at_call 58; refine (AD.out _ _ _ _ H7).mono ?_; rintro _ w8 ⟨r8, rfl, H8⟩; obtain ⟨ra8, rc8, hr8⟩ := H8.row_form; subst hr8))
  clear c0 c1 d0 d1 HN0 HN hrdN H7 AD H1
  have hLm : valD (digs (k + 4) L) = L := by rw [valD_digs, Nat.mod_eq_of_lt (by omega)]
  have hEm : valD (digs (1 + (k + 4)) (L + R)) = L + R := by rw [valD_digs, Nat.mod_eq_of_lt (Nat.lt_of_le_of_lt i3 (Nat.pow_lt_pow_right (by decide) (by omega)))]
  have c0 := H8.tail.tail.tail.cell 0 rfl
  have LS := rless_calls (va := .slice ra (k + 4) rc) (vb := .slice a (k + 4) cap) (xs := W) (ys := digs (k + 4) L) (by omega) (by rw [hwl, digs_length]) hwlt (digs_lt _ _) (by rw [hwl]; exact H8.tail.tail.rd) (by rw [digs_length]; exact (Reads.append HRD.out [_, _, _, _]) _ H8)
  rw [hLm] at LS
  by_cases hcl : valD W < L
  · rw [decide_eq_true hcl] at LS
    have HCL := Lib.hid hcl
    clear hcl
    go_wp2_with fail
    refine LS.mono ?_
    rintro _ _ ⟨rfl, n, rfl⟩
    go_wp2_with fail
    go_ret
    exact ⟨ret_bool4 (by rw [HRV.out, decide_eq_true HCL.out]; rfl), (H8.drewN n).tail.tail.tail.tail⟩
  · rw [decide_eq_false hcl] at LS
    have HCL := Lib.hid hcl
    clear hcl
    go_wp2_with fail
    refine LS.mono ?_
    rintro _ _ ⟨rfl, n, rfl⟩
    have H9 := H8.drewN n
    clear LS H8 c0
    generalize w8.drewN n = w9 at *
    have HN0 := H9.alloc #[.int .i64 0] 3
    have HN : Sep _ (HP.row 3 1 (.slice (some ⟨w9.heap.size, 0, none⟩) 1 1) 1 [.int .i64 0] :: _) := Sep.row_shut HN0 (Nat.le_refl _) (by unfold maxLen; omega) rfl rfl
    have hrdW := HN.tail.tail.tail.rd
    have hm : [Value.int .i64 0] ++ W.map dv = (0 :: W).map dv := rfl
    have HM2 := Lib.hid hm
    clear hm HN0
    go_wp2_with ((at_builtin; go_must (refine wpList_append_want rfl (.tmp 25) (.tmp 26) 22 rfl 3 (.int .i64 0) 1 8 Try.underlying22 info_iv rfl (by decide) (.slice (some ⟨w9.heap.size, 0, none⟩) 1 1) 1 _ rfl HN (.slice ra (k + 4) rc) (k + 4) (by omega) _ rfl hrdW (dv_one _) h63 hby ?_); intro v7 w7 H7; obtain ⟨va7, vc7, hv7⟩ := H7.row_form; subst hv7))
    rw [HM2.out] at H7
    have hl0 : (0 :: W).length = 1 + (k + 4) := by rw [List.length_cons, hwl]; omega
    refine (rless_calls (xs := 0 :: W) (ys := digs (1 + (k + 4)) (L + R)) (by rw [hl0]; omega) (by rw [hl0, digs_length]) (by
      intro d hd
      rcases List.mem_cons.1 hd with rfl | hd
      · decide
      · exact hwlt d hd) (digs_lt _ _) (by rw [hl0]; exact H7.rd) (by rw [digs_length]; exact H7.tail.rd)).mono ?_
    rintro _ _ ⟨rfl, n2, rfl⟩
    rw [valD_cons_zero, hEm]
    have H10 := H7.drewN n2
    clear H7 HN H9
    go_wp2_with fail
    go_ret
    exact ⟨ret_bool4 (by rw [HRV.out, decide_eq_false HCL.out]; rfl), H10.tail.tail.tail.tail.tail⟩

end Go.Proofs.Ytglinpclcmmnbaa
