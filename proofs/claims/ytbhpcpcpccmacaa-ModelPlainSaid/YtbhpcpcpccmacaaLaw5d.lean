/- Law 05: ModelPlain. -/
import Derived.Test.YtbhpcpcpccmacaaLaw5
import Derived.Test.YtbhpcpcpccmacaaGC
namespace Go.Proofs.Ytbhpcpcpccmacaa
open Go.RowKit Go.Shelf

set_option maxRecDepth 100000 in
set_option maxHeartbeats 8000000 in
theorem law_ModelPlain (n : Int) (_wn : (Lit.int .i64 n).wf = true) (cx : Int) (_wc : (Lit.int .i64 cx).wf = true) (sa : Option Addr) (sl sc : Nat) (z : List Int) {w : World} (hz : IsRow .i64 w sa sl sc z) (ca : Option Addr) (cl cc : Nat) (z2 : List Int) (hz2 : IsRow .i64 w ca cl cc z2) :
    Calls Try.prog 8 #[.int .i64 n, .int .i64 cx, .slice sa sl sc, .slice ca cl cc] w fun e w' => e = .returned (.bool true) ∧ Below w.heap.size w w' := by
  obtain ⟨xs, rfl, hrv⟩ := hz.read
  obtain ⟨ys, rfl, hru⟩ := hz2.read
  clear hz hz2 _wn _wc
  have H := Sep.start w
  generalize hB : HP.old w.heap.size w = O at H hrv hru
  have HB := Lib.hid hB; clear hB
  by_cases hg : 200 < xs.length ∨ 200 < ys.length
  · have HG := Lib.hid (decide_eq_true hg)
    clear hg
    go_enter Try.func8, Try.ntmps8
    go_wp2_with fail
    refine (awake5 H).mono ?_
    rintro e w1 ⟨rfl, H1⟩
    clear H
    have GC := mgreat_calls (hrv _ H1) (hru _ H1)
    rw [HG.out] at GC
    go_wp2_with fail
    refine GC.mono ?_
    rintro _ _ ⟨rfl, rfl⟩
    go_wp2_with fail
    refine (awake5 H1).mono ?_
    rintro e w2 ⟨rfl, H2⟩
    go_wp2_with fail
    go_ret
    subst HB
    exact ⟨rfl, H2.below⟩
  have HG := Lib.hid (decide_eq_false hg)
  have hl1 : xs.length ≤ 200 := by omega
  have hl2 : ys.length ≤ 200 := by omega
  clear hg
  by_cases hf : fitE n cx xs ys = 0
  · obtain ⟨N, C, ss, cs, rfl, rfl, rfl, rfl, hr⟩ := fit_row hf
    rw [zs_length, zs_iv] at hrv hru
    rw [zs_length] at hl1 hl2 HG
    rw [zs_length, zs_length]
    rw [zs_length] at HG
    have HR := Lib.hid hr
    clear hf hr
    go_enter Try.func8, Try.ntmps8
    go_wp2_with fail
    refine (awake5 H).mono ?_
    rintro e w1 ⟨rfl, H1⟩
    clear H
    have GC := mgreat_calls (hrv _ H1) (hru _ H1)
    rw [HG.out] at GC
    go_wp2_with fail
    refine GC.mono ?_
    rintro _ _ ⟨rfl, rfl⟩
    clear GC
    have FC := nfits_calls HR.out hrv hru H1
    go_wp2_with fail
    refine FC.mono ?_
    rintro _ _ ⟨rfl, rfl⟩
    clear FC
    have EC := nencode_calls HR.out hrv hru H1
    go_wp2_with fail
    refine EC.mono ?_
    rintro _ w2 ⟨_, rfl, ea, ec, rfl, H2⟩
    clear EC H1
    have hle := enc_le N ss cs
    have hpl : (plainB N ss).length = 1 + (ss.length * widthN (N : Int) + 7) / 8 := by
      unfold plainB
      rw [List.length_cons, pk_length, rowBits_length]
      omega
    have hr1 := HR.out.n1
    have hr2 := HR.out.n2
    have M1 := mplain_calls (n := (N : Int)) (m := ss.length) (by omega) (hrv _ H2.tail)
    rw [if_neg (by omega), ← hpl] at M1
    have R1 := rplain5_calls (n := N) HR.out.n1 HR.out.n2 HR.out.syms HR.out.few hrv.cons H2
    rw [← hpl] at hle
    generalize encN N ss cs = B at *
    generalize plainB N ss = pb at *
    have hlei : (B.length : Int) ≤ (pb.length : Int) := by omega
    clear hpl
    go_wp2_with fail
    refine M1.mono ?_
    rintro _ _ ⟨rfl, rfl⟩
    clear M1
    go_wp2_with fail
    refine R1.mono ?_
    rintro _ w3 ⟨_, rfl, H3⟩
    obtain ⟨pa, pc, rfl⟩ := H3.row_form
    clear R1
    have M2 := mplain_calls (n := 0) (m := ss.length) (by omega) (hrv _ H3.tail.tail)
    rw [if_pos (by omega)] at M2
    have M3 := mplain_calls (n := 257) (m := ss.length) (by omega) (hrv _ H3.tail.tail)
    rw [if_pos (by omega)] at M3
    go_wp2_with fail
    refine M2.mono ?_
    rintro _ _ ⟨rfl, rfl⟩
    go_wp2_with fail
    refine M3.mono ?_
    rintro _ _ ⟨rfl, rfl⟩
    go_wp2_with fail
    go_ret
    subst HB
    exact ⟨by simp, H3.tail.tail.below⟩
  · have FC := Lib.hid fun (w' : World) (h : Sep w' [O]) => rfits5_calls (n := n) (cx := cx) (by omega) hrv hru h
    have hne : ((fitE n cx xs ys : Int) != 0) = true := by rw [bne_iff_ne]; omega
    have hne2 : ¬ (fitE n cx xs ys : Int) = 0 := by omega
    clear hf
    go_enter Try.func8, Try.ntmps8
    go_wp2_with fail
    refine (awake5 H).mono ?_
    rintro e w1 ⟨rfl, H1⟩
    clear H
    have GC := mgreat_calls (hrv _ H1) (hru _ H1)
    rw [HG.out] at GC
    go_wp2_with fail
    refine GC.mono ?_
    rintro _ _ ⟨rfl, rfl⟩
    clear GC
    go_wp2_with fail
    refine (FC.out _ H1).mono ?_
    rintro _ _ ⟨rfl, rfl⟩
    clear FC
    generalize fitE n cx xs ys = fe at *
    go_wp2_with fail
    refine (awake5 H1).mono ?_
    rintro e w2 ⟨rfl, H2⟩
    go_wp2_with fail
    go_ret
    subst HB
    exact ⟨rfl, H2.below⟩

end Go.Proofs.Ytbhpcpcpccmacaa
