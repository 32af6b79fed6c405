/- Law 29: ResidualCost. -/
import Derived.Test.YtbhpcpcpccmacaaRes15
import Derived.Test.YtbhpcpcpccmacaaRef29c
import Derived.Test.YtbhpcpcpccmacaaOpen29
namespace Go.Proofs.Ytbhpcpcpccmacaa
open Go.RowKit Go.Shelf

theorem resB_cost {xs : List Nat} (h : Fine xs) : (resB xs).length ≤ 1 + (costN xs + 7) / 8 := by
  have hp : (rplainB xs).length = 1 + ((rowG xs).length + 7) / 8 := by
    unfold rplainB
    rw [List.length_cons, pk_length]
    omega
  rw [← gB_length, gB_fine h]
  unfold resB
  split <;> omega

set_option maxRecDepth 100000 in
set_option maxHeartbeats 8000000 in
theorem law_ResidualCost (v : Value) (xs : List Nat) {w : World} (hv : TripRow w v xs) :
    Calls Try.prog 17 #[v] w fun e w' => e = .returned (.bool true) ∧ Below w.heap.size w w' := by
  obtain ⟨n, hl, h64, hrd0⟩ := hv
  have hrd : Reads [HP.old w.heap.size w] v n 3 (xs.map uv) := Reads.old hrd0
  obtain ⟨va, vc, rfl⟩ := hrd0.form
  clear hrd0
  have H := Sep.start w
  generalize hB : HP.old w.heap.size w = O at H hrd
  have HB := Lib.hid hB; clear hB
  have HL := Lib.hid hl
  have H64 := Lib.hid h64
  clear hl h64
  by_cases hg : 60 < n
  · have hgi : (60 : Int) < (n : Int) := by omega
    go_enter Try.func17, Try.ntmps17
    go_wp2_with fail
    refine (awake29 H).mono ?_
    rintro e w1 ⟨rfl, H1⟩
    clear H
    go_wp2_with fail
    refine (awake29 H1).mono ?_
    rintro e w2 ⟨rfl, H2⟩
    go_wp2_with fail
    go_ret
    subst HB
    exact ⟨rfl, H2.below⟩
  have hgi : ¬ (60 : Int) < (n : Int) := by omega
  have CC := Lib.hid fun (w' : World) (h : Sep w' [O]) => cost_calls (by omega) hrd h
  have EC := Lib.hid fun (w' : World) (h : Sep w' [O]) => rencode_calls H64.out hrd h
  have BC := Lib.hid fun (w' : World) (h : Sep w' [O]) => rbits29_calls (by omega) hrd h
  have BC2 := Lib.hid fun (w' : World) (X : HP) (h : Sep w' (X :: [O])) => rbits29_calls (v := .slice va n vc) (by omega) hrd.cons h
  have HGL := Lib.hid (gB_length xs)
  have hcb := costN_le xs
  have hcb2 : costN xs ≤ 20000 := by have := HL.out; omega
  have HRC := Lib.hid fun (h : Fine xs) => resB_cost h
  clear hcb
  go_enter Try.func17, Try.ntmps17
  go_wp2_with fail
  refine (awake29 H).mono ?_
  rintro e w1 ⟨rfl, H1⟩
  clear H
  go_wp2_with fail
  refine (CC.out _ H1).mono ?_
  rintro _ w2 ⟨rfl, H2⟩
  clear H1 CC
  go_wp2_with fail
  refine (EC.out _ H2).mono ?_
  rintro _ w3 ⟨_, rfl, ⟨hf, rfl, H3⟩ | ⟨hf, ea, ec, rfl, H3⟩⟩
  · have hfi : ¬ (rfitE n xs : Int) = 0 := by omega
    have hfb : ((rfitE n xs : Int) != 0) = true := by rw [bne_iff_ne]; exact hfi
    clear hf EC
    generalize rfitE n xs = fe at *
    have B := BC.out _ H3
    rw [HGL.out] at B
    generalize costN xs = cn at *
    go_wp2_with fail
    refine B.mono ?_
    rintro _ w4 ⟨r4, rfl, H4⟩
    obtain ⟨ra, rc, rfl⟩ := H4.row_form
    go_wp2_with fail
    go_ret
    subst HB
    exact ⟨by simp, H4.tail.below⟩
  · have hle := HRC.out (rfit_fine hf)
    have B := BC2.out _ _ H3
    rw [HGL.out] at B
    generalize costN xs = cn at *
    generalize resB xs = rb at *
    have hd1 : ((cn : Int) + 7).tdiv 8 = (((cn + 7) / 8 : Nat) : Int) := by rw [Int.tdiv_eq_ediv_of_nonneg (by omega)]; omega
    have hd2 : ((cn : Int) + 7) / 8 = (((cn + 7) / 8 : Nat) : Int) := by omega
    generalize (cn + 7) / 8 = dv8 at *
    have hlei : (rb.length : Int) ≤ 1 + (dv8 : Int) := by omega
    clear hf EC hle
    go_wp2_with fail
    refine B.mono ?_
    rintro _ w4 ⟨r4, rfl, H4⟩
    obtain ⟨ra, rc, rfl⟩ := H4.row_form
    go_wp2_with fail
    go_ret
    subst HB
    exact ⟨by simp, H4.tail.tail.below⟩

end Go.Proofs.Ytbhpcpcpccmacaa
