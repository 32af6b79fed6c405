import Derived.Test.YticeolbagfaofaaOrd9
namespace Go.Proofs.Yticeolbagfaofaa
open Go.RowKit

set_option maxRecDepth 100000 in
set_option maxHeartbeats 4000000 in
theorem law_OrderGroups (a : Option Addr) (len cap : Nat) (z : List Int) {w : World} (hrow : IsRow .i64 w a len cap z) (a2 : Option Addr) (len2 cap2 : Nat) (z2 : List Int) (hrow2 : IsRow .i64 w a2 len2 cap2 z2) (a3 : Option Addr) (len3 cap3 : Nat) (z3 : List Int) (hrow3 : IsRow .i64 w a3 len3 cap3 z3) :
    Calls Try.prog 7 #[.slice a len cap, .slice a2 len2 cap2, .slice a3 len3 cap3] w fun e w' => e = .returned (.bool true) ∧ Below w.heap.size w w' := by
  obtain ⟨xs, hl, -, hrd, -⟩ := hrow.ints
  obtain ⟨ys, hl2, -, hrd2, -⟩ := hrow2.ints
  obtain ⟨zs, hl3, -, hrd3, -⟩ := hrow3.ints
  subst hl
  subst hl2
  subst hl3
  clear hrow hrow2 hrow3
  have H := Sep.start w
  have HRD : Hid (Reads [HP.old w.heap.size w] (.slice a xs.length cap) xs.length 1 (xs.map iv)) := Lib.hid (Reads.old hrd)
  have HRD2 : Hid (Reads [HP.old w.heap.size w] (.slice a2 ys.length cap2) ys.length 1 (ys.map iv)) := Lib.hid (Reads.old hrd2)
  have HRD3 : Hid (Reads [HP.old w.heap.size w] (.slice a3 zs.length cap3) zs.length 1 (zs.map iv)) := Lib.hid (Reads.old hrd3)
  clear hrd hrd2 hrd3
  generalize hB : HP.old w.heap.size w = O at H HRD HRD2 HRD3
  have HB := Lib.hid hB; clear hB
  by_cases hfew : 40 < xs.length
  · skip
    go_enter Try.func7, Try.ntmps7
    go_wp2_with fail
    refine (awake25 H).mono ?_
    rintro e w1 ⟨rfl, H1⟩
    go_wp2_with fail
    refine (awake25 H1).mono ?_
    rintro e w2 ⟨rfl, H2⟩
    go_wp2_with fail
    go_ret
    subst HB
    exact ⟨rfl, H2.below⟩
  by_cases hl2 : ys.length = xs.length
  rotate_left
  · have hne : ((ys.length : Int) != (xs.length : Int)) = true := by rw [bne_iff_ne]; omega
    clear hl2
    go_enter Try.func7, Try.ntmps7
    go_wp2_with fail
    refine (awake25 H).mono ?_
    rintro e w1 ⟨rfl, H1⟩
    go_wp2_with fail
    refine (awake25 H1).mono ?_
    rintro e w2 ⟨rfl, H2⟩
    go_wp2_with fail
    go_ret
    subst HB
    exact ⟨rfl, H2.below⟩
  by_cases hl3 : zs.length = xs.length
  rotate_left
  · have he2 : ((ys.length : Int) != (xs.length : Int)) = false := by rw [bne_eq_false_iff_eq]; omega
    have hne : ((zs.length : Int) != (xs.length : Int)) = true := by rw [bne_iff_ne]; omega
    clear hl2 hl3
    go_enter Try.func7, Try.ntmps7
    go_wp2_with fail
    refine (awake25 H).mono ?_
    rintro e w1 ⟨rfl, H1⟩
    go_wp2_with fail
    refine (awake25 H1).mono ?_
    rintro e w2 ⟨rfl, H2⟩
    go_wp2_with fail
    go_ret
    subst HB
    exact ⟨rfl, H2.below⟩
  have he2 : ((ys.length : Int) != (xs.length : Int)) = false := by rw [bne_eq_false_iff_eq]; omega
  have he3 : ((zs.length : Int) != (xs.length : Int)) = false := by rw [bne_eq_false_iff_eq]; omega
  have hy40 : ys.length ≤ 40 := by omega
  have hz40 : zs.length ≤ 40 := by omega
  have HL2 := Lib.hid hl2
  have HL3 := Lib.hid hl3
  clear hl2 hl3
  go_enter Try.func7, Try.ntmps7
  go_wp2_with fail
  refine (awake25 H).mono ?_
  rintro e w1 ⟨rfl, H1⟩
  clear H
  go_wp2_with fail
  refine (rright_calls (by omega) (HRD.out _ H1)).mono ?_
  rintro e w2 ⟨rfl, n1, rfl⟩
  have H2 := H1.drewN n1
  generalize w1.drewN n1 = w2 at H2 ⊢
  clear H1
  cases hr1 : rightB xs with
  | false =>
    clear hr1
    go_wp2_with fail
    refine (awake25 H2).mono ?_
    rintro e w9 ⟨rfl, H9⟩
    go_wp2_with fail
    go_ret
    subst HB
    exact ⟨rfl, H9.below⟩
  | true =>
  have HR1 := Lib.hid hr1
  clear hr1
  go_wp2_with fail
  refine (rright_calls (by omega) (HRD2.out _ H2)).mono ?_
  rintro e w3 ⟨rfl, n2, rfl⟩
  have H3 := H2.drewN n2
  generalize w2.drewN n2 = w3 at H3 ⊢
  clear H2
  cases hr2 : rightB ys with
  | false =>
    clear hr2
    go_wp2_with fail
    refine (awake25 H3).mono ?_
    rintro e w9 ⟨rfl, H9⟩
    go_wp2_with fail
    go_ret
    subst HB
    exact ⟨rfl, H9.below⟩
  | true =>
  have HR2 := Lib.hid hr2
  clear hr2
  go_wp2_with fail
  refine (rright_calls (by omega) (HRD3.out _ H3)).mono ?_
  rintro e w4 ⟨rfl, n3, rfl⟩
  have H4 := H3.drewN n3
  generalize w3.drewN n3 = w4 at H4 ⊢
  clear H3
  cases hr3 : rightB zs with
  | false =>
    clear hr3
    go_wp2_with fail
    refine (awake25 H4).mono ?_
    rintro e w9 ⟨rfl, H9⟩
    go_wp2_with fail
    go_ret
    subst HB
    exact ⟨rfl, H9.below⟩
  | true =>
  have HR3 := Lib.hid hr3
  clear hr3
  have hp1 := rightB_iff.1 HR1.out
  have hp2 := rightB_iff.1 HR2.out
  have hp3 := rightB_iff.1 HR3.out
  -- a = p, then q; c = q, then r
  have hal := afterL_length xs ys
  have hcl := afterL_length ys zs
  have har := rightB_iff.2 (after_right hp1 hp2 HL2.out)
  have hcr := rightB_iff.2 (after_right hp2 hp3 (by rw [HL2.out]; exact HL3.out))
  have HAS := Lib.hid (after_assoc (p := xs) (q := ys) (r := zs) hp1 HL2.out)
  have HAG : Hid (∀ i (hi : i < xs.length), ∃ k : Nat, ∃ y : Int, xs[i] = (k : Int) ∧ k < ys.length ∧ ys[k]? = some y ∧ (afterL xs ys)[i]? = some y) := Lib.hid fun i hi => by
    have hr := hp1.1 _ (List.getElem_mem hi)
    have hk : xs[i].toNat < ys.length := by have := HL2.out; omega
    refine ⟨xs[i].toNat, ys[xs[i].toNat], (Int.toNat_of_nonneg hr.1).symm, hk, List.getElem?_eq_getElem hk, ?_⟩
    rw [after_get hi, getD_get hk]
  have HAR := Lib.hid har
  have HCR := Lib.hid hcr
  have HAL := Lib.hid hal
  have HCL := Lib.hid hcl
  clear hp1 hp2 hp3 hal hcl har hcr
  go_wp2_with fail
  refine (after_calls (by omega) (by omega) HRD.out HRD2.out H4).mono ?_
  rintro e w5 ⟨r, rfl, ⟨hne, -⟩ | ⟨-, v5, rfl, H5⟩⟩
  · exfalso
    have h1 := HR1.out
    have h2 := HR2.out
    have h3 := HL2.out
    rcases hne with h | h | h
    · rw [h1] at h; cases h
    · rw [h2] at h; cases h
    · exact h h3.symm
  clear H4
  obtain ⟨a5, c5, rfl⟩ := H5.row_form
  generalize hA : afterL xs ys = us at *
  clear hA
  have hus : us.length = xs.length := HAL.out
  have hrA : Reads (HP.row 3 1 (.slice a5 xs.length c5) xs.length (us.map iv) :: [O]) (.slice a5 xs.length c5) us.length 1 (us.map iv) := by rw [hus]; exact Reads.row
  have HRA := Lib.hid hrA
  have hus40 : us.length ≤ 40 := by omega
  clear hus hrA
  go_wp2_with fail
  refine (after_calls (by omega) (by omega) HRA.out HRD3.out.cons H5).mono ?_
  rintro e w6 ⟨r, rfl, ⟨hne, -⟩ | ⟨-, v6, rfl, H6⟩⟩
  · exfalso
    have h1 := HAR.out
    have h2 := HR3.out
    have h3 := HAL.out.trans HL3.out.symm
    rcases hne with h | h | h
    · rw [h1] at h; cases h
    · rw [h2] at h; cases h
    · exact h h3
  clear H5
  obtain ⟨a6, c6, rfl⟩ := H6.row_form
  rw [HAL.out] at H6 ⊢
  go_wp2_with fail
  refine (after_calls (by omega) (by omega) HRD2.out.cons.cons HRD3.out.cons.cons H6).mono ?_
  rintro e w7 ⟨r, rfl, ⟨hne, -⟩ | ⟨-, v7, rfl, H7⟩⟩
  · exfalso
    have h1 := HR2.out
    have h2 := HR3.out
    have h3 := HL2.out.trans HL3.out.symm
    rcases hne with h | h | h
    · rw [h1] at h; cases h
    · rw [h2] at h; cases h
    · exact h h3
  clear H6
  obtain ⟨a7, c7, rfl⟩ := H7.row_form
  generalize hC : afterL ys zs = cs at *
  clear hC
  have hcs : cs.length = ys.length := HCL.out
  have hrC : ∀ R, Reads (HP.row 3 1 (.slice a7 ys.length c7) ys.length (cs.map iv) :: R) (.slice a7 ys.length c7) cs.length 1 (cs.map iv) := fun R => by rw [hcs]; exact Reads.row
  have HRC := Lib.hid hrC
  have hcs40 : cs.length ≤ 40 := by omega
  clear hcs hrC
  go_wp2_with fail
  refine (after_calls (by omega) (by omega) HRD.out.cons.cons.cons (HRC.out _) H7).mono ?_
  rintro e w8 ⟨r, rfl, ⟨hne, -⟩ | ⟨-, v8, rfl, H8⟩⟩
  · exfalso
    have h1 := HR1.out
    have h2 := HCR.out
    have h3 := HL2.out.symm.trans HCL.out.symm
    rcases hne with h | h | h
    · rw [h1] at h; cases h
    · rw [h2] at h; cases h
    · exact h h3
  clear H7
  obtain ⟨a8, c8, rfl⟩ := H8.row_form
  rw [← HAS.out] at H8
  -- [d, c, b, a, O]
  go_wp2_with fail
  refine (oright_calls (xs := us) (v := .slice a5 xs.length c5) (by omega) HRA.out.cons.cons.cons H8).mono ?_
  rintro e w9 ⟨rfl, H9⟩
  rw [HAR.out]
  clear H8
  have hbl : (afterL us zs).length = xs.length := by rw [afterL_length]; exact HAL.out
  generalize afterL us zs = bs at *
  have HBLN := Lib.hid hbl
  clear hbl
  go_wp2_with fail
  go_loopg [15, 105] xs.length (fun gk _ i wr => ∃ n, wr = w9.drewN n ∧ ∃ t : Nat, Hid (t ≤ xs.length ∧ gk = xs.length - t) ∧ i = .int .i64 (t : Int))
  case atStart => exact ⟨0, rfl, 0, Lib.hid ⟨by omega, rfl⟩, rfl⟩
  case round =>
    obtain ⟨n, rfl, t, hq, rfl⟩ := hrel
    obtain ⟨q1, q2⟩ := hq.out
    clear hq
    have H10 := H9.drewN n
    generalize hW : w9.drewN n = W at H10 ⊢
    have HW := Lib.hid hW
    clear hW
    by_cases c : t < xs.length
    · obtain ⟨g, o, d, he⟩ := (HRD.out _ H10.tail.tail.tail.tail).open (by omega)
      simp only [Value.slice.injEq, true_and] at he
      obtain ⟨rfl, rfl⟩ := he
      have c0 : W.cell? ⟨g, o + t, none⟩ = some (.int .i64 xs[t]) := (HRD.out _ H10.tail.tail.tail.tail).cell t (iv_get c)
      obtain ⟨k, y, hk1, hk2, hk3, hk4⟩ := HAG.out t c
      rw [hk1] at c0
      have hk5 : k < ys.length := hk2
      obtain ⟨g2, o2, d2, he⟩ := (HRD2.out _ H10.tail.tail.tail.tail).open (by omega)
      simp only [Value.slice.injEq, true_and] at he
      obtain ⟨rfl, rfl⟩ := he
      have c2 : W.cell? ⟨g2, o2 + k, none⟩ = some (.int .i64 y) := (HRD2.out _ H10.tail.tail.tail.tail).cell k (by rw [List.getElem?_map, hk3]; rfl)
      obtain ⟨ga, ca, _, he, -⟩ := H10.tail.tail.tail.row_open (by omega)
      simp only [Value.slice.injEq, true_and] at he
      obtain ⟨rfl, rfl⟩ := he
      have ca1 : W.cell? ⟨ga, t, none⟩ = some (.int .i64 y) := H10.tail.tail.tail.row_cell t (by rw [List.getElem?_map, hk4]; rfl)
      clear hk1 hk3 hk4
      go_wp2_with fail
      (refine wp_region_quiet_lit (by kernel_rfl) (by kernel_rfl) ?_; (repeat (first | go_big_quiet_skip | (go_big_quiet_want; go_big_quiet_op; (try go_bits); first | go_big_quiet_on | go_big_quiet_call ((fail))))); refine wpQuiet_nil ?_; intro _ hw'; obtain ⟨nq, hw''⟩ := hw'; subst hw'')
      go_wp2_with fail
      go_roundg (xs.length - (t + 1))
      case rel => exact ⟨n + nq, by rw [← HW.out, World.drewN_drewN], t + 1, Lib.hid ⟨by omega, rfl⟩, by go_num⟩
      case measure => omega
    · have hb1 : RdS W (.slice a6 xs.length c6) bs.length 1 (bs.map iv) := by rw [HBLN.out]; exact H10.tail.tail.rd
      have hb2 : RdS W (.slice a8 xs.length c8) bs.length 1 (bs.map iv) := by rw [HBLN.out]; exact H10.rd
      have hb40 : bs.length ≤ 40 := by have := HBLN.out; omega
      go_wp2_with fail
      refine (ints_same (by omega) hb1 hb2).mono ?_
      rintro e w11 ⟨rfl, n11, rfl⟩
      have H11 := H10.drewN n11
      go_wp2_with fail
      go_ret
      subst HB
      exact ⟨rfl, H11.tail.tail.tail.tail.below⟩

end Go.Proofs.Yticeolbagfaofaa
