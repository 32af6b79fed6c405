import Derived.Test.YtglinpclcmmnbaaLaw3
namespace Go.Proofs.Ytglinpclcmmnbaa
open Go.RowKit

set_option maxRecDepth 100000 in
set_option maxHeartbeats 1000000 in
theorem law_TableMakes (a : Option Addr) (len cap : Nat) (z : List Int) {w : World} (hrow : IsRow .i64 w a len cap z) (sym : Int) (_ws : (Lit.int .i64 sym).wf = true) (x : Int) (wx : (Lit.int .i64 x).wf = true) :
    Calls Try.prog 3 #[.slice a len cap, .int .i64 sym, .int .i64 x] w fun e w' => e = .returned (.bool true) ∧ Below w.heap.size w w' := by
  obtain ⟨xs, hl, -, hrd, hfit⟩ := hrow.ints
  subst hl
  have hx1 := (wf_i64 wx).2
  clear hrow _ws wx
  have H := Sep.start w
  have hreads : Reads [HP.old w.heap.size w] (.slice a xs.length cap) xs.length 1 (xs.map iv) := Reads.old hrd
  have HRD := Lib.hid hreads
  clear hreads hrd
  generalize hB : HP.old w.heap.size w = O at H HRD
  have HB := Lib.hid hB; clear hB
  by_cases hfew : 300 < xs.length
  · go_enter Try.func3, Try.ntmps3
    go_wp2_with fail
    refine (awake3 H).mono ?_
    rintro e w1 ⟨rfl, H1⟩
    go_wp2_with fail
    go_ret
    subst HB
    exact ⟨rfl, H1.below⟩
  have hlen : xs.length ≤ 300 := by omega
  clear hfew
  go_enter Try.func3, Try.ntmps3
  go_wp2_with fail
  refine (awake3 H).mono ?_
  rintro e w1 ⟨rfl, H1⟩
  clear H
  go_wp2_with fail
  refine (new_calls HRD.out H1).mono ?_
  rintro e w2 ⟨r, rfl, ⟨hne, rfl, H2⟩ | ⟨he, b, rfl, H2⟩⟩
  · go_wp2_with fail
    refine (rcheck_calls (by omega) (HRD.out _ H2)).mono ?_
    rintro e w3 ⟨rfl, rfl⟩
    generalize tabErr xs = t at hne ⊢
    go_wp2_with fail
    go_ret
    subst HB
    exact ⟨rfl, H2.below⟩
  · have hv := tabErr_ok he
    go_wp2_with fail
    refine (rcheck_calls (by omega) (HRD.out _ H2.tail)).mono ?_
    rintro e w3 ⟨rfl, rfl⟩
    rw [he]
    go_wp2_with fail
    refine (find_calls hv H2).mono ?_
    rintro e w3 ⟨rfl, H3⟩
    clear H2
    have h1 := fun w1 h => rfind_calls (w := w1) hfit hv hx1 h
    generalize hF : findI xs x = F at h1 ⊢
    generalize decide (0 ≤ x ∧ x < isum xs) = D at h1 ⊢
    have H1F := Lib.hid h1
    clear h1 hF
    go_wp2_with fail
    refine (H1F.out _ (HRD.out _ H3.tail)).mono ?_
    rintro e w4 ⟨rfl, n4, rfl⟩
    have H4 := H3.drewN n4
    generalize w3.drewN n4 = w4 at H4 ⊢
    clear H3
    go_wp2_with fail
    refine (same_calls hv (HRD.out _ H4.tail) H4).mono ?_
    rintro e w5 ⟨rfl, n5, rfl⟩
    have H5 := H4.drewN n5
    generalize w4.drewN n5 = w5 at H5 ⊢
    clear H4
    go_wp2_with fail
    refine (low_calls hv H5).mono ?_
    rintro e w6 ⟨rfl, rfl⟩
    have hL := rlow_calls (i := sym) hfit hv.2.2.1 (by have := hv.2.2.2; omega) (HRD.out _ H5.tail)
    have hC := rcount_calls (i := sym) (by omega) (HRD.out _ H5.tail)
    have hC0 := count_calls (i := sym) H5
    generalize lowI xs sym = L at hL ⊢
    generalize countI xs sym = C at hC hC0
    go_wp2_with fail
    refine hL.mono ?_
    rintro e w6 ⟨rfl, rfl⟩
    go_wp2_with fail
    refine hC0.mono ?_
    rintro e w6 ⟨rfl, rfl⟩
    go_wp2_with fail
    refine hC.mono ?_
    rintro e w6 ⟨rfl, rfl⟩
    go_wp2_with fail
    go_ret
    subst HB
    exact ⟨rfl, H5.tail.below⟩

end Go.Proofs.Ytglinpclcmmnbaa
