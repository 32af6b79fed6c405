/- Law 05: ModelBack. -/
import Derived.Test.YtbhpcpcpccmacaaLaw5
import Derived.Test.YtbhpcpcpccmacaaGC
namespace Go.Proofs.Ytbhpcpcpccmacaa
open Go.RowKit Go.Shelf

theorem row_small {N C : Nat} {ss cs : List Nat} (h : Row5 N C ss cs) : (encN N ss cs).length ≤ 65537 := by
  have hle := enc_le N ss cs
  have hw := Nat.mul_le_mul h.few (width_8 h.n2)
  omega

set_option maxRecDepth 100000 in
set_option maxHeartbeats 8000000 in
theorem law_ModelBack (n : Int) (_wn : (Lit.int .i64 n).wf = true) (cx : Int) (_wc : (Lit.int .i64 cx).wf = true) (sa : Option Addr) (sl sc : Nat) (z : List Int) {w : World} (hz : IsRow .i64 w sa sl sc z) (ca : Option Addr) (cl cc : Nat) (z2 : List Int) (hz2 : IsRow .i64 w ca cl cc z2) :
    Calls Try.prog 6 #[.int .i64 n, .int .i64 cx, .slice sa sl sc, .slice ca cl cc] w fun e w' => e = .returned (.bool true) ∧ Below w.heap.size w w' := by
  obtain ⟨xs, rfl, hrv⟩ := hz.read
  obtain ⟨ys, rfl, hru⟩ := hz2.read
  clear hz hz2 _wn _wc
  have H := Sep.start w
  generalize hB : HP.old w.heap.size w = O at H hrv hru
  have HB := Lib.hid hB; clear hB
  by_cases hg : 200 < xs.length ∨ 200 < ys.length
  · have HG := Lib.hid (decide_eq_true hg)
    clear hg
    go_enter Try.func6, Try.ntmps6
    go_wp2_with fail
    refine (awake5 H).mono ?_
    rintro e w1 ⟨rfl, H1⟩
    clear H
    have GC := mgreat_calls (hrv _ H1) (hru _ H1)
    rw [HG.out] at GC
    go_wp2_with fail
    refine GC.mono ?_
    rintro _ _ ⟨rfl, rfl⟩
    go_wp2_with fail
    refine (awake5 H1).mono ?_
    rintro e w2 ⟨rfl, H2⟩
    go_wp2_with fail
    go_ret
    subst HB
    exact ⟨rfl, H2.below⟩
  have HG := Lib.hid (decide_eq_false hg)
  have hl1 : xs.length ≤ 200 := by omega
  have hl2 : ys.length ≤ 200 := by omega
  clear hg
  by_cases hf : fitE n cx xs ys = 0
  · obtain ⟨N, C, ss, cs, rfl, rfl, rfl, rfl, hr⟩ := fit_row hf
    rw [zs_length, zs_iv] at hrv hru
    rw [zs_length] at hl1 hl2 HG
    rw [zs_length, zs_length]
    rw [zs_length] at HG
    have HR := Lib.hid hr
    clear hf hr
    go_enter Try.func6, Try.ntmps6
    go_wp2_with fail
    refine (awake5 H).mono ?_
    rintro e w1 ⟨rfl, H1⟩
    clear H
    have GC := mgreat_calls (hrv _ H1) (hru _ H1)
    rw [HG.out] at GC
    go_wp2_with fail
    refine GC.mono ?_
    rintro _ _ ⟨rfl, rfl⟩
    clear GC
    have FC := nfits_calls HR.out hrv hru H1
    go_wp2_with fail
    refine FC.mono ?_
    rintro _ _ ⟨rfl, rfl⟩
    clear FC
    have EC := nencode_calls HR.out hrv hru H1
    go_wp2_with fail
    refine EC.mono ?_
    rintro _ w2 ⟨_, rfl, ea, ec, rfl, H2⟩
    clear EC H1
    have hsm := row_small HR.out
    have DC := Lib.hid fun (a : Option Addr) (cap : Nat) (w' : World) (G : List HP) (hc : (encN N ss cs).length ≤ cap) (h : Sep w' (HP.row 5 1 (.slice a (encN N ss cs).length cap) (encN N ss cs).length ((encN N ss cs).map bv) :: HP.row 5 1 (.slice ea (encN N ss cs).length ec) (encN N ss cs).length ((encN N ss cs).map bv) :: [O])) => ndecode_calls HR.out hc Reads.row hru.cons.cons h
    have hb := baD_toList_beq (encN_lt N ss cs) (encN_lt N ss cs)
    rw [decide_eq_true rfl] at hb
    generalize encN N ss cs = B at *
    have HA := H2.alloc #[] 5
    have HN : Sep _ (HP.row 5 1 (.slice (some ⟨w2.heap.size, 0, none⟩) 0 0) 0 [] :: _) := Sep.row_shut HA (Nat.le_refl _) (by unfold maxLen; omega) rfl rfl
    have h63 : 0 + B.length ≤ maxLen := by unfold maxLen; omega
    have hby : (0 + B.length) * 1 ≤ 140737488355328 := by omega
    have hrd2 := HN.tail.rd
    clear HA
    go_wp2_with ((at_builtin; go_must (refine wpList_append_src rfl (.tmp 38) (.tmp 39) 33 rfl 5 (.int .u8 0) 1 1 Try.underlying33 info_u8 rfl (by decide) (.slice (some ⟨w2.heap.size, 0, none⟩) 0 0) 0 [] rfl HN (.slice ea B.length ec) _ _ rfl hrd2 (bv_one _) h63 hby ?_); intro v7 w7 H7; obtain ⟨va, vc, hv7⟩ := H7.row_form; subst hv7))
    rw [Nat.zero_add, List.nil_append] at H7
    clear H2 HN hrd2
    have D2 := DC.out va vc _ [] (H7.row_cap) H7
    clear DC
    go_wp2_with fail
    refine D2.mono ?_
    rintro _ w8 ⟨_, rfl, la, lc, rfl, H8⟩
    clear D2 H7
    have IC := nints_calls (by omega) H8.rd (hrv _ H8.tail.tail.tail)
    rw [decide_eq_true rfl] at IC
    go_wp2_with fail
    refine IC.mono ?_
    rintro _ _ ⟨rfl, m, rfl⟩
    clear IC
    have H9 := H8.drewN m
    have c1 := conv_bytes H9.tail.rd
    have c2 := conv_bytes H9.tail.tail.rd
    go_wp2_with fail
    go_ret
    subst HB
    exact ⟨by simp, H9.tail.tail.tail.below⟩
  · have FC := Lib.hid fun (w' : World) (h : Sep w' [O]) => rfits5_calls (n := n) (cx := cx) (by omega) hrv hru h
    have hne : ((fitE n cx xs ys : Int) != 0) = true := by rw [bne_iff_ne]; omega
    have hne2 : ¬ (fitE n cx xs ys : Int) = 0 := by omega
    clear hf
    go_enter Try.func6, Try.ntmps6
    go_wp2_with fail
    refine (awake5 H).mono ?_
    rintro e w1 ⟨rfl, H1⟩
    clear H
    have GC := mgreat_calls (hrv _ H1) (hru _ H1)
    rw [HG.out] at GC
    go_wp2_with fail
    refine GC.mono ?_
    rintro _ _ ⟨rfl, rfl⟩
    clear GC
    go_wp2_with fail
    refine (FC.out _ H1).mono ?_
    rintro _ _ ⟨rfl, rfl⟩
    clear FC
    generalize fitE n cx xs ys = fe at *
    go_wp2_with fail
    refine (awake5 H1).mono ?_
    rintro e w2 ⟨rfl, H2⟩
    go_wp2_with fail
    go_ret
    subst HB
    exact ⟨rfl, H2.below⟩

end Go.Proofs.Ytbhpcpcpccmacaa
