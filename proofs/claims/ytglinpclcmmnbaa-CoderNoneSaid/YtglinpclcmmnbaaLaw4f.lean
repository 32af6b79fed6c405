/- Law 04: CoderNone. -/
import Derived.Test.YtglinpclcmmnbaaLaw4d
import Derived.Test.YtglinpclcmmnbaaLaw4b
namespace Go.Proofs.Ytglinpclcmmnbaa
open Go.RowKit Go.ChangeShapes Go.WideShapes Go.Deep Go.Shelf

theorem open_step {H : Type} {enc : TypeId × Value → H} {w : World} {base b0 : Nat} {spare : Nat → Bool} {held : Bool} {r : Reach} {v : Value} {d : DataW H} {p : List MemPlace}
    (hv : Value.okWide Try.prog w r b0 58 v) (h : DataW.Trod enc Try.prog w base spare held 58 v d p) : ∃ q : Stp, v = .agg #[q.1, .int .i64 q.2.2] ∧ StepOk w q := by
  obtain ⟨cs, rfl, -⟩ := okWide_struct Try.underlying58 hv
  obtain ⟨fuel, hf⟩ := h
  obtain ⟨q, hq, hs⟩ := step_cells hf
  refine ⟨q, ?_, hs⟩
  simp [Value.cells] at hq
  rw [← hq]

theorem load_step {w : World} {b : Nat} {x y : Value} {F : List HP} (H : Sep w (HP.pt b #[x, y] 58 :: F)) : (loadVar 58 ⟨b, 0, none⟩).run Try.prog w = .ok (.agg #[x, y]) w :=
  run_loadVar_row w b 58 58 #[x, y] (0, 0) _ H.heap Try.underlying58 rfl (by kernel_rfl)

set_option maxRecDepth 100000 in
theorem cdecode_nil {a : Option Addr} {w : World} : Calls Try.prog 47 #[.pointer none, .pointer a] w fun e w' => e = .returned (.tuple #[.int .i64 0, .int .i64 1]) ∧ w = w' := by
  go_enter Try.func47, Try.ntmps47
  go_wp2_with fail
  go_ret2
  exact ⟨rfl, rfl⟩
set_option maxRecDepth 100000 in
theorem cdecode_tnil {q : Nat} {w : World} : Calls Try.prog 47 #[.pointer (some ⟨q, 0, none⟩), .pointer none] w fun e w' => e = .returned (.tuple #[.int .i64 0, .int .i64 1]) ∧ w = w' := by
  go_enter Try.func47, Try.ntmps47
  go_wp2_with fail
  go_ret2
  exact ⟨rfl, rfl⟩
theorem cdone_nil {w : World} : Calls Try.prog 48 #[.pointer none] w fun e w' => e = .returned (.bool false) ∧ ∃ n, w' = w.drewN n := by
  go_enter Try.func48, Try.ntmps48
  go_wp2_with fail
  (refine wp_region_quiet_lit (by kernel_rfl) (by kernel_rfl) ?_; (repeat (first | go_big_quiet_skip | (go_big_quiet_want; go_big_quiet_op; (try go_bits); first | go_big_quiet_on | go_big_quiet_call (fail)))); refine wpQuiet_nil ?_; intro _ hw'; obtain ⟨nq, hw''⟩ := hw'; subst hw'')
  go_wp2_with fail
  go_ret
  exact ⟨rfl, nq, rfl⟩

set_option maxRecDepth 100000 in
set_option maxHeartbeats 8000000 in
theorem law_CoderNone (v : Value) (p : Stp) {w : World} (hp : v = .agg #[p.1, .int .i64 p.2.2] ∧ StepOk w p) (sym : Int) (_wm : (Lit.int .i64 sym).wf = true) :
    Calls Try.prog 16 #[v, .int .i64 sym] w fun e w' => e = .returned (.bool true) ∧ Below w.heap.size w w' := by
  obtain ⟨rfl, hso⟩ := hp
  obtain ⟨sv, cs, s⟩ := p
  obtain ⟨⟨hrd0, -⟩, -⟩ := hso
  simp only at hrd0 ⊢
  have hrd : Reads [HP.old w.heap.size w] sv cs.length 1 (cs.map iv) := Reads.old hrd0
  obtain ⟨a, cap, rfl⟩ := hrd0.form
  clear hrd0
  have H := Sep.start w
  generalize hB : HP.old w.heap.size w = O at H hrd
  have HB := Lib.hid hB; clear hB
  have H0 := H.alloc #[.slice a cs.length cap, .int .i64 s] 58
  clear H
  go_enter Try.func16, Try.ntmps16
  go_wp2_with fail
  generalize hW : w.alloc (.cells #[.slice a cs.length cap, .int .i64 s] 58) = W at *
  have HWW := Lib.hid hW
  clear hW
  generalize hn0 : w.heap.size = n0 at *
  refine (awake4 H0).mono ?_
  rintro e w1 ⟨rfl, H1⟩
  clear H0
  have c0 := H1.cell 0 rfl
  have c1 := H1.cell 1 rfl
  by_cases h20 : 20 < cs.length
  · go_wp2_with fail
    go_ret
    subst HB
    exact ⟨rfl, by first | exact H1.tail.below | (rw [hn0]; exact H1.tail.below)⟩
  have HL := load_step H1
  by_cases hR : RightS cs s
  rotate_left
  · have RC := right_calls (s := s) (by omega) hrd.cons H1
    rw [decide_eq_false hR] at RC
    clear hR
    go_wp2_with fail
    refine RC.mono ?_
    rintro _ w2 ⟨rfl, H2⟩
    go_wp2_with fail
    go_ret
    subst HB
    exact ⟨rfl, by rw [hn0]; exact H2.tail.below⟩
  have RC := right_calls (s := s) (by omega) hrd.cons H1
  rw [decide_eq_true hR] at RC
  obtain ⟨hv, hs0, hs1⟩ := hR
  obtain ⟨s, rfl⟩ := Int.eq_ofNat_of_zero_le hs0
  have hs : s < cs.length := by omega
  go_wp2_with fail
  refine RC.mono ?_
  rintro _ w2 ⟨rfl, H2⟩
  clear RC H1 c0 c1 HL
  have c0 := H2.cell 0 rfl
  have c1 := H2.cell 1 rfl
  have MC := made_calls hv hrd.cons H2
  go_wp2_with fail
  refine MC.mono ?_
  rintro _ w3 ⟨_, rfl, bt, rfl, H3⟩
  clear MC H2 c0 c1
  go_wp2_with fail
  refine cdecode_nil.mono ?_
  rintro _ _ ⟨rfl, rfl⟩
  go_wp2_with fail
  refine (enc_nil ⟨_, rfl⟩ ⟨_, rfl⟩).mono ?_
  rintro _ _ ⟨rfl, rfl⟩
  go_wp2_with fail
  refine finish_nil.mono ?_
  rintro _ _ ⟨rfl, rfl⟩
  go_wp2_with fail
  refine cdone_nil.mono ?_
  rintro _ _ ⟨rfl, n, rfl⟩
  have H4 := H3.drewN n
  clear H3
  generalize w3.drewN n = w4 at *
  go_wp2_with fail
  refine (cnew_calls H4).mono ?_
  rintro _ w5 ⟨q, rfl, H5⟩
  clear H4
  have c1 := H5.tail.tail.cell 1 rfl
  have EC := encode_ok firstI_iv (by decide) hv hs (show Sep w5 (EncI q firstI :: _) from H5)
  obtain ⟨hI, hk⟩ := stepI_ok (s := (s : Int)) firstI_iv ⟨hv, hs0, hs1⟩
  rw [Int.toNat_natCast] at hI hk
  have hk1 : (stepI firstI cs s).1 ≤ 2 := hk
  clear hk
  go_wp2_with fail
  refine EC.mono ?_
  rintro _ w6 ⟨rfl, H6⟩
  clear EC H5 c1
  generalize stepI firstI cs s = y at *
  go_wp2_with fail
  refine (finish_calls hI (by omega) H6).mono ?_
  rintro _ w7 ⟨r7, rfl, cd1, hc1, H7⟩
  obtain ⟨ra, rc, rfl⟩ := H7.row_form
  have hcn := hc1.len_le
  clear H6
  have c0 := H7.tail.tail.tail.cell 0 rfl
  by_cases hin : 0 ≤ sym ∧ sym < (cs.length : Int)
  · obtain ⟨s2, rfl⟩ := Int.eq_ofNat_of_zero_le hin.1
    have hs2 : s2 < cs.length := by omega
    have EC := encode_ok hI (by omega) hv hs2 H7.tail
    have h1 : ¬ (s2 : Int) < 0 := by omega
    have h2 : ¬ (cs.length : Int) ≤ (s2 : Int) := by omega
    go_wp2_with fail
    refine EC.mono ?_
    rintro _ w8 ⟨rfl, H8⟩
    clear EC H7 c0
    have c0 := H8.tail.tail.cell 0 rfl
    have HT := H8
    clear H8
    have ND := newdec_calls (v := .slice none 0 0) (b := []) (by simp) (by simp) (fun w' _ => ⟨rfl, .inl ⟨rfl, rfl⟩⟩) HT
    go_wp2_with fail
    refine ND.mono ?_
    rintro _ w21 ⟨_, rfl, q2, rfl, H21⟩
    clear ND HT
    go_wp2_with fail
    refine cdecode_tnil.mono ?_
    rintro _ _ ⟨rfl, rfl⟩
    go_wp2_with fail
    refine encode_tnil.mono ?_
    rintro _ _ ⟨rfl, rfl⟩
    go_wp2_with fail
    refine (done_calls firstI_iv (by decide) (by simp) H21).mono ?_
    rintro _ w22 ⟨⟨c3, hc3, rfl⟩, H22⟩
    obtain rfl := code_first hc3
    have e3 : decide (([] : List Nat) = []) = true := rfl
    rw [e3]
    have H23 := H22.alloc #[.int .u8 0] 5
    have hrd0 := rd_new H23
    go_wp2_with fail
    refine (newdec_calls (v := .slice (some ⟨w22.heap.size, 0, none⟩) 1 1) (b := [0]) (by simp) (by simp) (by exact fun w' h => rd_new h) H23).mono ?_
    rintro _ w23 ⟨_, rfl, q3, rfl, H24⟩
    clear H23 hrd0 H22 H21 hc3
    go_wp2_with fail
    refine (done_calls firstI_iv (by decide) (by simp) H24).mono ?_
    rintro _ w24 ⟨⟨c4, hc4, rfl⟩, H25⟩
    obtain rfl := code_first hc4
    have e4 : decide (([0] : List Nat) = []) = false := rfl
    rw [e4]
    go_wp2_with fail
    go_ret
    subst HB
    exact ⟨rfl, by rw [hn0]; exact H25.tail.tail.tail.tail.tail.tail.below⟩
  · have hout : sym < 0 ∨ (cs.length : Int) ≤ sym := by omega
    have EC := encode_range (q := q) (b := bt) (x := y) hv hout H7.tail
    have hcase : sym < 0 ∨ (¬ sym < 0 ∧ (cs.length : Int) ≤ sym) := by omega
    have FC := finish_calls hI (by omega) H7.swap
    clear hin
    rcases hcase with h0 | ⟨h0, h1⟩
    all_goals (
      go_wp2_with fail
      refine EC.mono ?_
      rintro _ _ ⟨rfl, rfl⟩
      clear EC
      go_wp2_with fail
      refine FC.mono ?_
      rintro _ w9 ⟨r9, rfl, cd2, hc2, H9⟩
      obtain ⟨ra2, rc2, hr2⟩ := H9.row_form
      subst hr2
      have hcc := hc1.uniq hc2
      subst hcc
      clear FC
      go_wp2_with fail
      refine (bsame_calls (xs := cd1) (ys := cd1) (by omega) H9.rd H9.tail.tail.rd).mono ?_
      rintro _ _ ⟨rfl, n9, rfl⟩
      have e1 : decide (cd1 = cd1) = true := decide_eq_true rfl
      rw [e1]
      have HT := H9.drewN n9
      clear H9 H7 c0
      have ND := newdec_calls (v := .slice none 0 0) (b := []) (by simp) (by simp) (fun w' _ => ⟨rfl, .inl ⟨rfl, rfl⟩⟩) HT
      go_wp2_with fail
      refine ND.mono ?_
      rintro _ w21 ⟨_, rfl, q2, rfl, H21⟩
      clear ND HT
      go_wp2_with fail
      refine cdecode_tnil.mono ?_
      rintro _ _ ⟨rfl, rfl⟩
      go_wp2_with fail
      refine encode_tnil.mono ?_
      rintro _ _ ⟨rfl, rfl⟩
      go_wp2_with fail
      refine (done_calls firstI_iv (by decide) (by simp) H21).mono ?_
      rintro _ w22 ⟨⟨c3, hc3, rfl⟩, H22⟩
      obtain rfl := code_first hc3
      have e3 : decide (([] : List Nat) = []) = true := rfl
      rw [e3]
      have H23 := H22.alloc #[.int .u8 0] 5
      have hrd0 := rd_new H23
      go_wp2_with fail
      refine (newdec_calls (v := .slice (some ⟨w22.heap.size, 0, none⟩) 1 1) (b := [0]) (by simp) (by simp) (by exact fun w' h => rd_new h) H23).mono ?_
      rintro _ w23 ⟨_, rfl, q3, rfl, H24⟩
      clear H23 hrd0 H22 H21 hc3
      go_wp2_with fail
      refine (done_calls firstI_iv (by decide) (by simp) H24).mono ?_
      rintro _ w24 ⟨⟨c4, hc4, rfl⟩, H25⟩
      obtain rfl := code_first hc4
      have e4 : decide (([0] : List Nat) = []) = false := rfl
      rw [e4]
      go_wp2_with fail
      go_ret
      subst HB
      exact ⟨rfl, by rw [hn0]; exact H25.tail.tail.tail.tail.tail.tail.tail.tail.below⟩)

end Go.Proofs.Ytglinpclcmmnbaa
