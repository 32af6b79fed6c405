/- Law 05: ModelSame. -/
import Derived.Test.YtbhpcpcpccmacaaLaw5
import Derived.Test.YtbhpcpcpccmacaaGC
namespace Go.Proofs.Ytbhpcpcpccmacaa
open Go.RowKit Go.Shelf

theorem fill_set {m t s : Nat} (h : t < m) : ((List.replicate t s ++ List.replicate (m - t) 0).map dv).set t (.int .i64 (s : Int)) = (List.replicate (t + 1) s ++ List.replicate (m - (t + 1)) 0).map dv := by
  have e : m - t = (m - (t + 1)) + 1 := by omega
  rw [e, List.replicate_succ, List.map_append, List.set_append_right _ _ (by simp), List.length_map, List.length_replicate, Nat.sub_self, List.replicate_succ', List.map_cons, List.set_cons_zero]
  simp [dv]

set_option maxRecDepth 100000 in
set_option maxHeartbeats 8000000 in
theorem law_ModelSame (a : Int) (wa : (Lit.int .u8 a).wf = true) (b : Int) (wb : (Lit.int .u8 b).wf = true) (c : Int) (wc : (Lit.int .u8 c).wf = true) {w : World} :
    Calls Try.prog 9 #[.int .u8 a, .int .u8 b, .int .u8 c] w fun e w' => e = .returned (.bool true) ∧ Below w.heap.size w w' := by
  obtain ⟨a0, a1⟩ := wf_u8 wa
  obtain ⟨b0, b1⟩ := wf_u8 wb
  obtain ⟨c0, c1⟩ := wf_u8 wc
  clear wa wb wc
  obtain ⟨N, hN⟩ : ∃ N : Nat, (N : Int) = 2 + a % 15 := ⟨(2 + a % 15).toNat, by omega⟩
  have hN1 : 2 ≤ N := by omega
  have hN2 : N ≤ 16 := by omega
  have hr1 : a.tmod 15 = (N : Int) - 2 := by rw [Int.tmod_eq_emod_of_nonneg a0]; omega
  have hr2 : a % 15 = (N : Int) - 2 := by omega
  have hr3 : 2 + ((N : Int) - 2) = (N : Int) := by omega
  obtain ⟨s, hs⟩ : ∃ s : Nat, (s : Int) = b % (N : Int) := ⟨(b % (N : Int)).toNat, Int.toNat_of_nonneg (Int.emod_nonneg _ (by omega))⟩
  have hsN : s < N := by have := Int.emod_lt_of_pos b (show (0 : Int) < (N : Int) by omega); omega
  have hs1 : b.tmod (N : Int) = (s : Int) := by rw [Int.tmod_eq_emod_of_nonneg b0]; exact hs.symm
  have hs2 : b % (N : Int) = (s : Int) := hs.symm
  have hN0 : ¬ (N : Int) = 0 := by omega
  have hN00 : ¬ N = 0 := by omega
  obtain ⟨m, hm⟩ : ∃ m : Nat, 800 + c = (m : Int) := ⟨(800 + c).toNat, by omega⟩
  have hm1 : 800 ≤ m := by omega
  have hm2 : m ≤ 1055 := by omega
  clear hN hs
  have H := Sep.start w
  generalize hB : HP.old w.heap.size w = O at H
  have HB := Lib.hid hB; clear hB
  go_enter Try.func9, Try.ntmps9
  go_wp2_with fail
  refine (awake5 H).mono ?_
  rintro e w1 ⟨rfl, H1⟩
  clear H
  go_wp2_with ((at_make; go_must (refine wpList_make_sep rfl _ _ 40 rfl 3 (.int .i64 0) 8 Try.underlying40 info_iv rfl H1 .i64 .i64 _ _ m rfl rfl (by omega) (by omega) (by omega) (by unfold maxLen; omega) ?_); intro g w3 H3))
  have e0 : List.replicate m (Value.int .i64 0) = (List.replicate 0 s ++ List.replicate (m - 0) 0).map dv := by simp [dv]
  rw [e0] at H3
  clear e0 H1
  go_wp2_with fail
  go_loopg [26] m (fun gk i wr => ∃ t : Nat, Hid (t ≤ m ∧ gk = m - t) ∧ i = .int .i64 (t : Int) ∧ Sep wr (HP.row 3 1 (.slice (some ⟨g, 0, none⟩) m m) m ((List.replicate t s ++ List.replicate (m - t) 0).map dv) :: [O]))
  case atStart => exact ⟨0, Lib.hid ⟨by omega, rfl⟩, rfl, H3⟩
  case round =>
    clear H3
    obtain ⟨t, hq, rfl, Hr⟩ := hrel
    obtain ⟨q1, q2⟩ := hq.out
    clear hq
    by_cases ht : t < m
    · have hti : (t : Int) < (m : Int) := by omega
      have hget : ((List.replicate t s ++ List.replicate (m - t) 0).map dv)[t]? = some (.int .i64 0) := by
        rw [List.getElem?_map, List.getElem?_append_right (by simp), List.length_replicate, Nat.sub_self, List.getElem?_replicate, if_pos (by omega)]
        rfl
      have k0 := Hr.row_cell t hget
      have f0 := Hr.row_froz t
      have H4 := Hr.row_set t (.int .i64 (s : Int))
      rw [fill_set ht] at H4
      clear hget
      go_wp2_with fail
      go_roundg (m - (t + 1))
      case rel => exact ⟨t + 1, Lib.hid ⟨by omega, rfl⟩, by go_num, H4⟩
      case measure => omega
    · obtain rfl : t = m := by omega
      rw [Nat.sub_self, List.replicate_zero, List.append_nil] at Hr
      have hti : ¬ (t : Int) < (t : Int) := by omega
      have hrow : Row5 N 1 (List.replicate t s) (List.replicate t 0) := ⟨by omega, by omega, by decide, by decide, by rw [List.length_replicate, List.length_replicate], by rw [List.length_replicate]; omega, fun x hx => by rw [(List.mem_replicate.1 hx).2]; exact hsN, fun x hx => by rw [(List.mem_replicate.1 hx).2]; decide⟩
      have hlt := enc_same hN1 hN2 hsN hm1 hm2
      have ENC := Lib.hid fun (F : List HP) (w' : World) (v u : Value) (h1 : Reads F v t 1 ((List.replicate t s).map dv)) (h2 : Reads F u t 1 ((List.replicate t (0 : Nat)).map dv)) (h : Sep w' F) => nencode_calls (v := v) (u := u) hrow (by rw [List.length_replicate]; exact h1) (by rw [List.length_replicate]; exact h2) h
      have DEC := Lib.hid fun (F : List HP) (w' : World) (a : Option Addr) (cap : Nat) (u : Value) (h0 : (encN N (List.replicate t s) (List.replicate t 0)).length ≤ cap) (h1 : Reads F (.slice a (encN N (List.replicate t s) (List.replicate t 0)).length cap) (encN N (List.replicate t s) (List.replicate t 0)).length 1 ((encN N (List.replicate t s) (List.replicate t 0)).map bv)) (h2 : Reads F u t 1 ((List.replicate t (0 : Nat)).map dv)) (h : Sep w' F) => ndecode_calls (u := u) hrow h0 h1 (by rw [List.length_replicate]; exact h2) h
      have hN3 : ¬ (((N : Int) < 1) ∨ 256 < (N : Int)) := by omega
      have PLN := Lib.hid fun (w' : World) (v : Value) (h : RdS w' v t 1 ((List.replicate t s).map dv)) => mplain_calls (n := (N : Int)) (v := v) (m := t) (w := w') (by omega) h
      rw [if_neg hN3] at PLN
      have hL : (List.replicate t s).length = t := List.length_replicate
      have hdec : decide (List.replicate t s = List.replicate t s) = true := decide_eq_true rfl
      have INT := Lib.hid fun (w' : World) (va vb : Value) (h1 : RdS w' va t 1 ((List.replicate t s).map dv)) (h2 : RdS w' vb t 1 ((List.replicate t s).map dv)) => nints_calls (va := va) (vb := vb) (xs := List.replicate t s) (ys := List.replicate t s) (w := w') (by rw [hL]; omega) (by rw [hL]; exact h1) (by rw [hL]; exact h2)
      rw [hdec] at INT
      rw [hL] at DEC
      generalize encN N (List.replicate t s) (List.replicate t 0) = B at *
      generalize (1 + (t * widthN (N : Int) + 7) / 8) = PB at *
      have hlti : (B.length : Int) < (PB : Int) := by omega
      clear hrow hL hdec
      go_wp2_with ((at_make; go_must (refine wpList_make_sep rfl _ _ 40 rfl 3 (.int .i64 0) 8 Try.underlying40 info_iv rfl Hr .i64 .i64 _ _ t rfl rfl rfl rfl (by omega) (by unfold maxLen; omega) ?_); intro g2 w4 H4))
      rw [zero_dv] at H4
      have EC := ENC.out _ w4 (.slice (some ⟨g, 0, none⟩) t t) (.slice (some ⟨g2, 0, none⟩) t t) (by exact Reads.cons Reads.row) (by exact Reads.row) H4
      clear ENC Hr
      go_wp2_with fail
      refine EC.mono ?_
      rintro _ w5 ⟨_, rfl, ea, ec, rfl, H5⟩
      clear EC H4
      go_wp2_with ((at_make; go_must (refine wpList_make_sep rfl _ _ 40 rfl 3 (.int .i64 0) 8 Try.underlying40 info_iv rfl H5 .i64 .i64 _ _ t rfl rfl rfl rfl (by omega) (by unfold maxLen; omega) ?_); intro g3 w6 H6))
      rw [zero_dv] at H6
      have DC := DEC.out _ w6 ea ec (.slice (some ⟨g3, 0, none⟩) t t) H5.row_cap (by exact Reads.cons Reads.row) (by exact Reads.row) H6
      clear DEC H5
      go_wp2_with fail
      refine DC.mono ?_
      rintro _ w7 ⟨_, rfl, la, lc, rfl, H7⟩
      clear DC H6
      have PC := PLN.out w7 (.slice (some ⟨g, 0, none⟩) t t) H7.tail.tail.tail.tail.rd
      go_wp2_with fail
      refine PC.mono ?_
      rintro _ _ ⟨rfl, rfl⟩
      clear PC PLN
      have IC := INT.out w7 (.slice la t lc) (.slice (some ⟨g, 0, none⟩) t t) H7.rd H7.tail.tail.tail.tail.rd
      go_wp2_with fail
      refine IC.mono ?_
      rintro _ _ ⟨rfl, k, rfl⟩
      clear IC INT
      have H8 := H7.drewN k
      go_wp2_with fail
      go_ret
      subst HB
      exact ⟨by simp, H8.tail.tail.tail.tail.tail.below⟩

end Go.Proofs.Ytbhpcpcpccmacaa
