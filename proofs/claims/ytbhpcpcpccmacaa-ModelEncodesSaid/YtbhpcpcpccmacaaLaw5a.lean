/- Law 05: ModelEncodes. -/
import Derived.Test.YtbhpcpcpccmacaaLaw5
namespace Go.Proofs.Ytbhpcpcpccmacaa
open Go.RowKit Go.Shelf

set_option maxRecDepth 100000 in
set_option maxHeartbeats 8000000 in
theorem law_ModelEncodes (n : Int) (_wn : (Lit.int .i64 n).wf = true) (cx : Int) (_wc : (Lit.int .i64 cx).wf = true) (sa : Option Addr) (sl sc : Nat) (z : List Int) {w : World} (hz : IsRow .i64 w sa sl sc z) (ca : Option Addr) (cl cc : Nat) (z2 : List Int) (hz2 : IsRow .i64 w ca cl cc z2) :
    Calls Try.prog 5 #[.int .i64 n, .int .i64 cx, .slice sa sl sc, .slice ca cl cc] w fun e w' => e = .returned (.bool true) ∧ Below w.heap.size w w' := by
  obtain ⟨xs, rfl, hrv⟩ := hz.read
  obtain ⟨ys, rfl, hru⟩ := hz2.read
  clear hz hz2 _wn _wc
  have H := Sep.start w
  generalize hB : HP.old w.heap.size w = O at H hrv hru
  have HB := Lib.hid hB; clear hB
  by_cases hg : 200 < xs.length ∨ 200 < ys.length
  · have HG := Lib.hid (decide_eq_true hg)
    clear hg
    go_enter Try.func5, Try.ntmps5
    go_wp2_with fail
    refine (awake5 H).mono ?_
    rintro e w1 ⟨rfl, H1⟩
    clear H
    have GC := mgreat_calls (hrv _ H1) (hru _ H1)
    rw [HG.out] at GC
    go_wp2_with fail
    refine GC.mono ?_
    rintro _ _ ⟨rfl, rfl⟩
    go_wp2_with fail
    refine (awake5 H1).mono ?_
    rintro e w2 ⟨rfl, H2⟩
    go_wp2_with fail
    go_ret
    subst HB
    exact ⟨rfl, H2.below⟩
  have HG := Lib.hid (decide_eq_false hg)
  have hl1 : xs.length ≤ 200 := by omega
  have hl2 : ys.length ≤ 200 := by omega
  clear hg
  by_cases hf : fitE n cx xs ys = 0
  · obtain ⟨N, C, ss, cs, rfl, rfl, rfl, rfl, hr⟩ := fit_row hf
    rw [zs_length, zs_iv] at hrv hru
    rw [zs_length] at hl1 hl2 HG
    rw [zs_length, zs_length]
    rw [zs_length] at HG
    have HR := Lib.hid hr
    clear hf hr
    go_enter Try.func5, Try.ntmps5
    go_wp2_with fail
    refine (awake5 H).mono ?_
    rintro e w1 ⟨rfl, H1⟩
    clear H
    have GC := mgreat_calls (hrv _ H1) (hru _ H1)
    rw [HG.out] at GC
    go_wp2_with fail
    refine GC.mono ?_
    rintro _ _ ⟨rfl, rfl⟩
    clear GC
    have EC := nencode_calls HR.out hrv hru H1
    go_wp2_with fail
    refine EC.mono ?_
    rintro _ w2 ⟨_, rfl, ea, ec, rfl, H2⟩
    clear EC H1
    have FC := nfits_calls HR.out hrv.cons hru.cons H2
    go_wp2_with fail
    refine FC.mono ?_
    rintro _ _ ⟨rfl, rfl⟩
    clear FC
    have PC := rplain5_calls (n := N) HR.out.n1 HR.out.n2 HR.out.syms HR.out.few hrv.cons H2
    go_wp2_with fail
    refine PC.mono ?_
    rintro _ w3 ⟨_, rfl, H3⟩
    obtain ⟨pa, pc, rfl⟩ := H3.row_form
    clear PC H2
    have CC := lcoded_calls (n := N) (cx := C) HR.out.n1 HR.out.n2 HR.out.c2 HR.out.syms HR.out.ctx HR.out.len HR.out.few hrv.cons.cons hru.cons.cons H3
    go_wp2_with fail
    refine CC.mono ?_
    rintro _ w4 ⟨_, rfl, x, rfl, H4⟩
    obtain ⟨xa, xc, rfl⟩ := H4.row_form
    clear CC H3
    have c1 := conv_bytes H4.rd
    have c2 := conv_bytes H4.tail.rd
    have c3 := conv_bytes H4.tail.tail.rd
    have heq : encN N ss cs = if (codedB N (cs.zip ss)).length < (plainB N ss).length then codedB N (cs.zip ss) else plainB N ss := rfl
    have hb := baD_toList_beq (encN_lt N ss cs) (encN_lt N ss cs)
    rw [decide_eq_true rfl] at hb
    by_cases hlt : (codedB N (cs.zip ss)).length < (plainB N ss).length
    · rw [if_pos hlt] at heq
      rw [heq] at c3 hb ⊢
      have HE := Lib.hid heq
      clear heq
      generalize codedB N (cs.zip ss) = cd at *
      generalize plainB N ss = pd at *
      have hlti : (cd.length : Int) < (pd.length : Int) := by omega
      go_wp2_with fail
      go_ret
      subst HB
      exact ⟨by simp, H4.tail.tail.tail.below⟩
    · rw [if_neg hlt] at heq
      rw [heq] at c3 hb ⊢
      have HE := Lib.hid heq
      clear heq
      generalize codedB N (cs.zip ss) = cd at *
      generalize plainB N ss = pd at *
      have hlti : ¬ (cd.length : Int) < (pd.length : Int) := by omega
      go_wp2_with fail
      go_ret
      subst HB
      exact ⟨by simp, H4.tail.tail.tail.below⟩
  · have EC := Lib.hid fun (w' : World) (h : Sep w' [O]) => mencode_calls (n := n) (cx := cx) hrv hru h
    have FC := Lib.hid fun (w' : World) (h : Sep w' [O]) => rfits5_calls (n := n) (cx := cx) (by omega) hrv hru h
    have hne : ((fitE n cx xs ys : Int) != 0) = true := by rw [bne_iff_ne]; omega
    have hne2 : ¬ (fitE n cx xs ys : Int) = 0 := by omega
    have HF := Lib.hid hf
    clear hf
    go_enter Try.func5, Try.ntmps5
    go_wp2_with fail
    refine (awake5 H).mono ?_
    rintro e w1 ⟨rfl, H1⟩
    clear H
    have GC := mgreat_calls (hrv _ H1) (hru _ H1)
    rw [HG.out] at GC
    go_wp2_with fail
    refine GC.mono ?_
    rintro _ _ ⟨rfl, rfl⟩
    clear GC
    go_wp2_with fail
    refine (EC.out _ H1).mono ?_
    rintro _ w2 ⟨_, rfl, ⟨-, rfl, H2⟩ | ⟨hf, -, -, -⟩⟩
    rotate_left
    · exact absurd hf HF.out
    go_wp2_with fail
    refine (FC.out _ H2).mono ?_
    rintro _ _ ⟨rfl, rfl⟩
    clear EC FC H1
    generalize fitE n cx xs ys = fe at *
    go_wp2_with fail
    go_ret
    subst HB
    exact ⟨by simp, H2.below⟩

end Go.Proofs.Ytbhpcpcpccmacaa
