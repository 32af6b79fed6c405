/- coder: come. -/
import Derived.Test.YtglinpclcmmnbaaCod1
import Derived.Deep.RegionLaw
namespace Go.Proofs.Ytglinpclcmmnbaa
open Go.RowKit Go.Shelf

theorem one_byte (x : Int) : ∀ u ∈ [Value.int .u8 x], u.oneCell' = true := by
  intro u hu; simp at hu; subst hu; rfl
theorem rd_new {w : World} {b : Nat} {v : Value} {T : TypeId} {F : List HP} (H : Sep w (HP.pt b #[v] T :: F)) : RdS w (.slice (some ⟨b, 0, none⟩) 1 1) 1 1 [v] :=
  ⟨rfl, .inr ⟨_, _, rfl, fun j u hu => by
    match j, hu with
    | 0, hu =>
      simp at hu
      subst hu
      exact H.cell 0 rfl⟩⟩
theorem digs_shift (k L : Nat) : digs (k + 1) (L * 256 / 4294967296) = digs k (L / 4294967296) ++ [L % 4294967296 / 16777216] := by
  rw [digs]
  have e1 : L * 256 / 4294967296 / 256 = L / 4294967296 := by omega
  have e2 : L * 256 / 4294967296 % 256 = L % 4294967296 / 16777216 := by omega
  rw [e1, e2]

set_option maxRecDepth 100000 in
set_option maxHeartbeats 8000000 in
theorem come_calls {q k L R fr wd : Nat} {F : List HP} {w : World} (hI : Iv k L R) (h1 : fr + wd ≤ R) (h2 : 1 ≤ wd) (hk : k ≤ 1000) (H : Sep w (Enc q k L R :: F)) :
    Calls Try.prog 55 #[.pointer (some ⟨q, 0, none⟩), .int .u64 (fr : Int), .int .u64 (wd : Int)] w fun e w' => (∃ u, e = .returned u) ∧ Sep w' (Enc q (k + shS wd) ((L + fr) * 256 ^ shS wd) (wd * 256 ^ shS wd) :: F) := by
  obtain ⟨i1, i2, i3⟩ := hI
  obtain ⟨a, c, H0⟩ := Enc.open H
  clear H
  have hlow : L % 4294967296 < 4294967296 := by omega
  have hfr : fr ≤ 4294967296 := by omega
  have hp4 : 256 ^ (k + 4) = 256 ^ k * 4294967296 := by rw [Nat.pow_add]
  have hO : (L + fr) / 4294967296 < 256 ^ k := by
    rw [Nat.div_lt_iff_lt_mul (by decide)]
    omega
  obtain ⟨s1, s2, s3⟩ := shS_spec h2 (show wd ≤ 4294967296 by omega)
  have c0 := H0.cell 0 rfl
  have c1 := H0.cell 1 rfl
  have c2 := H0.cell 2 rfl
  have f1 := H0.froz 1
  have f2 := H0.froz 2
  have HO := Lib.hid hO
  clear hp4 hO i3
  have hwd : (wd : Int) ≤ 4294967296 := by omega
  by_cases hc : L % 4294967296 + fr < 4294967296
  · have hb : ¬ (4294967296 : Int) ≤ ((L % 4294967296 : Nat) : Int) + (fr : Int) := by omega
    have e1 : (L + fr) % 4294967296 = L % 4294967296 + fr := by omega
    have e2 : (L + fr) / 4294967296 = L / 4294967296 := by omega
    have H1 := (H0.set 1 (.int .u64 (((L % 4294967296 : Nat) : Int) + (fr : Int)))).set 2 (.int .u64 (wd : Int))
    have e3 : (((L + fr) % 4294967296 : Nat) : Int) = ((L % 4294967296 : Nat) : Int) + (fr : Int) := by omega
    have HE : Sep ((w.setCell ⟨q, 1, none⟩ (.int .u64 (((L % 4294967296 : Nat) : Int) + (fr : Int)))).setCell ⟨q, 2, none⟩ (.int .u64 (wd : Int))) (Enc q k (L + fr) wd :: F) :=
      Enc.shut (v := .slice a k c) (by rw [e3, e2]; exact H1)
    have d1 := H1.cell 1 rfl
    have d2 := H1.cell 2 rfl
    clear e1 e2 e3 H1
    generalize L % 4294967296 = lo0 at *
    go_enter Try.func55, Try.ntmps55
    go_wp2_with fail
    clear c0 c1 c2 f1 f2 d1 d2
    clear H0
    go_loopg [] (shS wd) (fun gk wr => ∃ k' L' R' : Nat, Hid (gk = shS R' ∧ 1 ≤ R' ∧ R' ≤ 4294967296 ∧ k' + shS R' = k + shS wd ∧ L' * 256 ^ shS R' = (L + fr) * 256 ^ shS wd ∧ R' * 256 ^ shS R' = wd * 256 ^ shS wd) ∧ Sep wr (Enc q k' L' R' :: F))
    case atStart => exact ⟨k, L + fr, wd, Lib.hid ⟨rfl, h2, by omega, rfl, rfl, rfl⟩, HE⟩
    case round =>
      clear HE
      obtain ⟨k', L', R', hq, Hr⟩ := hrel
      obtain ⟨q1, q2, q3, q4, q5, q6⟩ := hq.out
      clear hq
      obtain ⟨a', c', H2⟩ := Enc.open Hr
      clear Hr
      have d0 := H2.cell 0 rfl
      have d1 := H2.cell 1 rfl
      have d2 := H2.cell 2 rfl
      by_cases hlt : R' < 16777216
      · have hst := shS_step hlt (by omega)
        have hdg := digs_shift k' L'
        have hl3 : L' * 256 % 4294967296 = L' % 4294967296 * 256 % 4294967296 := by omega
        have hlo : L' % 4294967296 < 4294967296 := by omega
        have hp5 : L' * 256 ^ shS R' = L' * 256 * 256 ^ shS (R' * 256) := by rw [hst, Nat.pow_succ, Nat.mul_comm (256 ^ _) 256, Nat.mul_assoc]
        have hp6 : R' * 256 ^ shS R' = R' * 256 * 256 ^ shS (R' * 256) := by rw [hst, Nat.pow_succ, Nat.mul_comm (256 ^ _) 256, Nat.mul_assoc]
        have HN : Hid (k' + 1 + shS (R' * 256) = k + shS wd ∧ L' * 256 * 256 ^ shS (R' * 256) = (L + fr) * 256 ^ shS wd ∧ R' * 256 * 256 ^ shS (R' * 256) = wd * 256 ^ shS wd ∧ gk = shS (R' * 256) + 1) := Lib.hid ⟨by omega, by rw [← hp5]; exact q5, by rw [← hp6]; exact q6, by omega⟩
        have HDG := Lib.hid hdg
        have HL3 := Lib.hid hl3
        have hk1 : k' ≤ 1010 := by omega
        have hR2 : (R' : Int) < 16777216 := by omega
        have h63 : k' + 1 ≤ maxLen := by unfold maxLen; omega
        have hby : (k' + 1) * 1 ≤ 140737488355328 := by omega
        clear hst hdg hl3 hp5 hp6 q1 q4 q5 q6
        generalize L' % 4294967296 = lo at *
        have hx1 : IntKind.u8.wrap ((lo : Int) / 16777216) = ((lo / 16777216 : Nat) : Int) := by
          simp only [IntKind.wrap, IntKind.signed, IntKind.bits]
          first | omega | (simp; omega)
        obtain ⟨x, hx⟩ : ∃ x : Nat, x = lo / 16777216 := ⟨_, rfl⟩
        rw [← hx] at hx1 HDG
        have hxl : x < 256 := by omega
        have HX := Lib.hid hx
        clear hx
        have H3a := (H2.alloc #[.int .u8 (x : Int)] 5).drew
        have hrn := rd_new H3a
        have H3 := H3a.rot3
        clear H3a
        have e0 := H3.tail.tail.cell 0 rfl
        have e1 := H3.tail.tail.cell 1 rfl
        go_wp2_with fail
        go_region_law ((refine step_append_src rfl (.tmp 42) (.tmp 49) 61 rfl 5 (.int .u8 0) 1 1 Try.underlying61 info_byte rfl (by decide) (.slice a' k' c') k' _ rfl H3 (.slice (some ⟨wr.heap.size, 0, none⟩) 1 1) 1 [.int .u8 (x : Int)] rfl hrn (one_byte _) h63 hby ?_; intro va vc w7 H7; have g0 := H7.tail.tail.froz 0; have h70 := H7.tail.tail.cell 0 rfl))
        all_goals (
          have H8 := H7.rot3.set 0 (.slice va (k' + 1) vc)
          have hm : (digs k' (L' / 4294967296)).map bv ++ [.int .u8 (x : Int)] = (digs (k' + 1) (L' * 256 / 4294967296)).map bv := by rw [HDG.out]; simp [bv]
          rw [hm] at H8
          have H9 := ((H8.set 1 (.int .u64 ((lo : Int) * 256 % 4294967296))).set 2 (.int .u64 ((R' : Int) * 256)))
          have i1 := H8.cell 1 rfl
          have i2 := H8.cell 2 rfl
          have f1 := H8.froz 1
          have f2 := H8.froz 2
          have ew : IntKind.u64.wrap ((R' : Int) * 256) = (R' : Int) * 256 := by
            simp only [IntKind.wrap, IntKind.signed, IntKind.bits]
            first | omega | (simp; omega)
          have el : IntKind.u64.wrap ((lo : Int) * 256) = (lo : Int) * 256 := by
            simp only [IntKind.wrap, IntKind.signed, IntKind.bits]
            first | omega | (simp; omega)
          have hne : (4294967296 : Int) ≠ 0 := by decide
          have HE9 : Hid (Sep (((w7.setCell ⟨q, 0, none⟩ (.slice va (k' + 1) vc)).setCell ⟨q, 1, none⟩ (.int .u64 ((lo : Int) * 256 % 4294967296))).setCell ⟨q, 2, none⟩ (.int .u64 ((R' : Int) * 256))) (Enc q (k' + 1) (L' * 256) (R' * 256) :: F)) := by
            refine Lib.hid (Enc.shut (v := .slice va (k' + 1) vc) ?_)
            rw [HL3.out]
            exact H9.rot3.tail
          clear H7 H8 H9 hm h70 g0
          go_wp2_with fail
          go_region
          clear i1 i2 f1 f2 ew el hne d0 d1 d2 e0 e1
          go_wp2_with fail
          go_roundg (shS (R' * 256))
          case rel =>
            obtain ⟨n1, n2, n3, n4⟩ := HN.out
            exact ⟨k' + 1, L' * 256, R' * 256, Lib.hid ⟨rfl, by omega, by omega, n1, n2, n3⟩, HE9.out.drew⟩
          case measure => have := HN.out; omega)
      · have h0 : shS R' = 0 := by unfold shS; rw [if_pos (by omega)]
        rw [h0] at q4 q5 q6
        simp only [Nat.add_zero, Nat.pow_zero, Nat.mul_one] at q4 q5 q6
        have hR2 : ¬ (R' : Int) < 16777216 := by omega
        have H3 := Enc.shut H2
        rw [q4, q5, q6] at H3
        have HF := Lib.hid H3
        clear H3 q4 q5 q6 h0
        go_wp2_with fail
        go_end0
        exact ⟨⟨_, rfl⟩, HF.out⟩
  · have hb : (4294967296 : Int) ≤ ((L % 4294967296 : Nat) : Int) + (fr : Int) := by omega
    have e1 : (L + fr) % 4294967296 = L % 4294967296 + fr - 4294967296 := by omega
    have e2 : (L + fr) / 4294967296 = L / 4294967296 + 1 := by omega
    have H1 := (H0.set 1 (.int .u64 (((L % 4294967296 : Nat) : Int) + (fr : Int)))).set 2 (.int .u64 (wd : Int))
    have H2 := H1.set 1 (.int .u64 (((L % 4294967296 : Nat) : Int) + (fr : Int) - 4294967296))
    have e3 : (((L + fr) % 4294967296 : Nat) : Int) = ((L % 4294967296 : Nat) : Int) + (fr : Int) - 4294967296 := by omega
    rw [e2] at HO
    have HE : Hid (∀ w', Sep w' (HP.pt q #[.slice a k c, .int .u64 (((L % 4294967296 : Nat) : Int) + (fr : Int) - 4294967296), .int .u64 (wd : Int)] 86 :: HP.row 5 1 (.slice a k c) k ((digs k (L / 4294967296 + 1)).map bv) :: F) → Sep w' (Enc q k (L + fr) wd :: F)) :=
      Lib.hid (fun w' h => Enc.shut (v := .slice a k c) (by rw [e3, e2]; exact h))
    have d1 := H1.cell 1 rfl
    have g1 := H1.froz 1
    have d2 := H2.cell 1 rfl
    have CA := carry_calls HO.out (by omega) H2
    clear e1 e2 e3 H1
    generalize L % 4294967296 = lo0 at *
    go_enter Try.func55, Try.ntmps55
    go_wp2_with fail
    refine CA.mono ?_
    rintro _ W ⟨⟨u, rfl⟩, HW⟩
    have HE := HE.out W HW
    clear c0 c1 c2 f1 f2 d1 d2 g1 H2 CA HW
    go_wp2_with fail
    clear H0
    go_loopg [] (shS wd) (fun gk wr => ∃ k' L' R' : Nat, Hid (gk = shS R' ∧ 1 ≤ R' ∧ R' ≤ 4294967296 ∧ k' + shS R' = k + shS wd ∧ L' * 256 ^ shS R' = (L + fr) * 256 ^ shS wd ∧ R' * 256 ^ shS R' = wd * 256 ^ shS wd) ∧ Sep wr (Enc q k' L' R' :: F))
    case atStart => exact ⟨k, L + fr, wd, Lib.hid ⟨rfl, h2, by omega, rfl, rfl, rfl⟩, HE⟩
    case round =>
      clear HE
      obtain ⟨k', L', R', hq, Hr⟩ := hrel
      obtain ⟨q1, q2, q3, q4, q5, q6⟩ := hq.out
      clear hq
      obtain ⟨a', c', H2⟩ := Enc.open Hr
      clear Hr
      have d0 := H2.cell 0 rfl
      have d1 := H2.cell 1 rfl
      have d2 := H2.cell 2 rfl
      by_cases hlt : R' < 16777216
      · have hst := shS_step hlt (by omega)
        have hdg := digs_shift k' L'
        have hl3 : L' * 256 % 4294967296 = L' % 4294967296 * 256 % 4294967296 := by omega
        have hlo : L' % 4294967296 < 4294967296 := by omega
        have hp5 : L' * 256 ^ shS R' = L' * 256 * 256 ^ shS (R' * 256) := by rw [hst, Nat.pow_succ, Nat.mul_comm (256 ^ _) 256, Nat.mul_assoc]
        have hp6 : R' * 256 ^ shS R' = R' * 256 * 256 ^ shS (R' * 256) := by rw [hst, Nat.pow_succ, Nat.mul_comm (256 ^ _) 256, Nat.mul_assoc]
        have HN : Hid (k' + 1 + shS (R' * 256) = k + shS wd ∧ L' * 256 * 256 ^ shS (R' * 256) = (L + fr) * 256 ^ shS wd ∧ R' * 256 * 256 ^ shS (R' * 256) = wd * 256 ^ shS wd ∧ gk = shS (R' * 256) + 1) := Lib.hid ⟨by omega, by rw [← hp5]; exact q5, by rw [← hp6]; exact q6, by omega⟩
        have HDG := Lib.hid hdg
        have HL3 := Lib.hid hl3
        have hk1 : k' ≤ 1010 := by omega
        have hR2 : (R' : Int) < 16777216 := by omega
        have h63 : k' + 1 ≤ maxLen := by unfold maxLen; omega
        have hby : (k' + 1) * 1 ≤ 140737488355328 := by omega
        clear hst hdg hl3 hp5 hp6 q1 q4 q5 q6
        generalize L' % 4294967296 = lo at *
        have hx1 : IntKind.u8.wrap ((lo : Int) / 16777216) = ((lo / 16777216 : Nat) : Int) := by
          simp only [IntKind.wrap, IntKind.signed, IntKind.bits]
          first | omega | (simp; omega)
        obtain ⟨x, hx⟩ : ∃ x : Nat, x = lo / 16777216 := ⟨_, rfl⟩
        rw [← hx] at hx1 HDG
        have hxl : x < 256 := by omega
        have HX := Lib.hid hx
        clear hx
        have H3a := (H2.alloc #[.int .u8 (x : Int)] 5).drew
        have hrn := rd_new H3a
        have H3 := H3a.rot3
        clear H3a
        have e0 := H3.tail.tail.cell 0 rfl
        have e1 := H3.tail.tail.cell 1 rfl
        go_wp2_with fail
        go_region_law ((refine step_append_src rfl (.tmp 42) (.tmp 49) 61 rfl 5 (.int .u8 0) 1 1 Try.underlying61 info_byte rfl (by decide) (.slice a' k' c') k' _ rfl H3 (.slice (some ⟨wr.heap.size, 0, none⟩) 1 1) 1 [.int .u8 (x : Int)] rfl hrn (one_byte _) h63 hby ?_; intro va vc w7 H7; have g0 := H7.tail.tail.froz 0; have h70 := H7.tail.tail.cell 0 rfl))
        all_goals (
          have H8 := H7.rot3.set 0 (.slice va (k' + 1) vc)
          have hm : (digs k' (L' / 4294967296)).map bv ++ [.int .u8 (x : Int)] = (digs (k' + 1) (L' * 256 / 4294967296)).map bv := by rw [HDG.out]; simp [bv]
          rw [hm] at H8
          have H9 := ((H8.set 1 (.int .u64 ((lo : Int) * 256 % 4294967296))).set 2 (.int .u64 ((R' : Int) * 256)))
          have i1 := H8.cell 1 rfl
          have i2 := H8.cell 2 rfl
          have f1 := H8.froz 1
          have f2 := H8.froz 2
          have ew : IntKind.u64.wrap ((R' : Int) * 256) = (R' : Int) * 256 := by
            simp only [IntKind.wrap, IntKind.signed, IntKind.bits]
            first | omega | (simp; omega)
          have el : IntKind.u64.wrap ((lo : Int) * 256) = (lo : Int) * 256 := by
            simp only [IntKind.wrap, IntKind.signed, IntKind.bits]
            first | omega | (simp; omega)
          have hne : (4294967296 : Int) ≠ 0 := by decide
          have HE9 : Hid (Sep (((w7.setCell ⟨q, 0, none⟩ (.slice va (k' + 1) vc)).setCell ⟨q, 1, none⟩ (.int .u64 ((lo : Int) * 256 % 4294967296))).setCell ⟨q, 2, none⟩ (.int .u64 ((R' : Int) * 256))) (Enc q (k' + 1) (L' * 256) (R' * 256) :: F)) := by
            refine Lib.hid (Enc.shut (v := .slice va (k' + 1) vc) ?_)
            rw [HL3.out]
            exact H9.rot3.tail
          clear H7 H8 H9 hm h70 g0
          go_wp2_with fail
          go_region
          clear i1 i2 f1 f2 ew el hne d0 d1 d2 e0 e1
          go_wp2_with fail
          go_roundg (shS (R' * 256))
          case rel =>
            obtain ⟨n1, n2, n3, n4⟩ := HN.out
            exact ⟨k' + 1, L' * 256, R' * 256, Lib.hid ⟨rfl, by omega, by omega, n1, n2, n3⟩, HE9.out.drew⟩
          case measure => have := HN.out; omega)
      · have h0 : shS R' = 0 := by unfold shS; rw [if_pos (by omega)]
        rw [h0] at q4 q5 q6
        simp only [Nat.add_zero, Nat.pow_zero, Nat.mul_one] at q4 q5 q6
        have hR2 : ¬ (R' : Int) < 16777216 := by omega
        have H3 := Enc.shut H2
        rw [q4, q5, q6] at H3
        have HF := Lib.hid H3
        clear H3 q4 q5 q6 h0
        go_wp2_with fail
        go_end0
        exact ⟨⟨_, rfl⟩, HF.out⟩

end Go.Proofs.Ytglinpclcmmnbaa
