/- Law 22: awake; WordLeast. -/
import Derived.Test.YtmihlbecmagmbaaWord11
import Derived.Test.YtmihlbecmagmbaaWord12
namespace Go.Proofs.Ytmihlbecmagmbaa
open Go.RowKit Go.Shelf

theorem aw0 : rightB [69] = true := by decide
theorem aw1 : rightB [67, 82, 69] = true := by decide
theorem aw2 : rightB [82, 69] = false := by decide
theorem aw3 : leastI [82, 69] = 0 := by decide
theorem aw4 : leastI [67, 69] = 1 := by decide
theorem aw5 : leastI [69, 69] = 1 := by decide
theorem aw6 : leastI [67, 82] = 2 := by decide
theorem aw7 : leastI [67, 82, 69] = -1 := by decide
theorem aw8 : costI [67, 82, 69] = 7 := by decide
theorem awl : lensR [67, 82, 69] = [3, 4, 3] := by decide
theorem awe : lenE [67, 82, 69] = 0 := by decide

set_option maxRecDepth 100000 in
set_option maxHeartbeats 4000000 in
theorem awake22 {R : List HP} {w : World} (H : Sep w R) :
    Calls Try.prog 11 #[] w fun e w' => e = .returned (.bool true) ∧ Sep w' R := by
  have hl := lengths_calls (l := [67, 82, 69]) (by decide) H
  rw [awl, awe] at hl
  have h0 := fun (w1 : World) (R1 : List HP) (h : Sep w1 R1) => right_calls (l := [69]) (by decide) h
  rw [aw0] at h0
  have G0 := Lib.hid h0
  have h1 := fun (w1 : World) (R1 : List HP) (h : Sep w1 R1) => right_calls (l := [67, 82, 69]) (by decide) h
  rw [aw1] at h1
  have G1 := Lib.hid h1
  have h2 := fun (w1 : World) (R1 : List HP) (h : Sep w1 R1) => right_calls (l := [82, 69]) (by decide) h
  rw [aw2] at h2
  have G2 := Lib.hid h2
  have h3 := fun (w1 : World) (R1 : List HP) (h : Sep w1 R1) => least_calls (l := [82, 69]) (by decide) h
  rw [aw3] at h3
  have G3 := Lib.hid h3
  have h4 := fun (w1 : World) (R1 : List HP) (h : Sep w1 R1) => least_calls (l := [67, 69]) (by decide) h
  rw [aw4] at h4
  have G4 := Lib.hid h4
  have h5 := fun (w1 : World) (R1 : List HP) (h : Sep w1 R1) => least_calls (l := [69, 69]) (by decide) h
  rw [aw5] at h5
  have G5 := Lib.hid h5
  have h6 := fun (w1 : World) (R1 : List HP) (h : Sep w1 R1) => least_calls (l := [67, 82]) (by decide) h
  rw [aw6] at h6
  have G6 := Lib.hid h6
  have h7 := fun (w1 : World) (R1 : List HP) (h : Sep w1 R1) => least_calls (l := [67, 82, 69]) (by decide) h
  rw [aw7] at h7
  have G7 := Lib.hid h7
  have h8 := fun (w1 : World) (R1 : List HP) (h : Sep w1 R1) => wcost_calls (l := [67, 82, 69]) (by decide) h
  rw [aw8] at h8
  have G8 := Lib.hid h8
  clear h0 h1 h2 h3 h4 h5 h6 h7 h8
  go_enter Try.func11, Try.ntmps11
  go_wp2_with fail
  refine hl.mono ?_
  rintro e w1 ⟨v, rfl, H1⟩
  clear hl H
  obtain ⟨g, cap, _, rfl, _⟩ := H1.row_open (by decide)
  go_wp2_with fail
  refine (G0.out _ _ H1).mono ?_
  rintro e w2 ⟨rfl, H2⟩
  go_wp2_with fail
  refine (G1.out _ _ H2).mono ?_
  rintro e w3 ⟨rfl, H3⟩
  go_wp2_with fail
  refine (G2.out _ _ H3).mono ?_
  rintro e w4 ⟨rfl, H4⟩
  go_wp2_with fail
  refine (G3.out _ _ H4).mono ?_
  rintro e w5 ⟨rfl, H5⟩
  go_wp2_with fail
  refine (G4.out _ _ H5).mono ?_
  rintro e w6 ⟨rfl, H6⟩
  go_wp2_with fail
  refine (G5.out _ _ H6).mono ?_
  rintro e w7 ⟨rfl, H7⟩
  go_wp2_with fail
  refine (G6.out _ _ H7).mono ?_
  rintro e w8 ⟨rfl, H8⟩
  go_wp2_with fail
  refine (G7.out _ _ H8).mono ?_
  rintro e w9 ⟨rfl, H9⟩
  have c1 := H9.row_cell 1 (u := .int .i64 4) rfl
  go_wp2_with fail
  refine (G8.out _ _ H9).mono ?_
  rintro e w10 ⟨rfl, H10⟩
  go_wp2_with fail
  go_ret
  exact ⟨rfl, H10.tail⟩

set_option maxRecDepth 100000 in
set_option maxHeartbeats 4000000 in
theorem law_WordLeast (b : ByteArray) (_hb : b.size ≤ maxLen) {w : World} :
    Calls Try.prog 3 #[.string b] w fun e w' => e = .returned (.bool true) ∧ Below w.heap.size w w' := by
  have hb := str_data b
  generalize b.data.toList = l at hb
  subst hb
  have hss := str_size l
  have H := Sep.start w
  generalize hB : HP.old w.heap.size w = O at H
  have HB := Lib.hid hB; clear hB
  by_cases hfew : 30 < l.length
  · have hi : 30 < ((str l).size : Int) := by rw [hss]; omega
    go_enter Try.func3, Try.ntmps3
    go_wp2_with fail
    refine (awake22 H).mono ?_
    rintro e w1 ⟨rfl, H1⟩
    go_wp2_with fail
    go_ret
    subst HB
    exact ⟨rfl, H1.below⟩
  · have hi : ¬ 30 < ((str l).size : Int) := by rw [hss]; omega
    have h0 := fun (w1 : World) (R1 : List HP) (h : Sep w1 R1) => right_calls (l := l) (by omega) h
    have h1 := fun (w1 : World) (R1 : List HP) (h : Sep w1 R1) => rright_calls (l := l) (by omega) h
    have h2 := fun (w1 : World) (R1 : List HP) (h : Sep w1 R1) => least_calls (l := l) (by omega) h
    have h3 := fun (w1 : World) (R1 : List HP) (h : Sep w1 R1) => rleast_calls (l := l) (by omega) h
    have G0 := Lib.hid h0
    have G1 := Lib.hid h1
    have G2 := Lib.hid h2
    have G3 := Lib.hid h3
    clear h0 h1 h2 h3
    go_enter Try.func3, Try.ntmps3
    go_wp2_with fail
    refine (awake22 H).mono ?_
    rintro e w1 ⟨rfl, H1⟩
    go_wp2_with fail
    refine (G0.out _ _ H1).mono ?_
    rintro e w2 ⟨rfl, H2⟩
    go_wp2_with fail
    refine (G1.out _ _ H2).mono ?_
    rintro e w3 ⟨rfl, H3⟩
    go_wp2_with fail
    refine (G2.out _ _ H3).mono ?_
    rintro e w4 ⟨rfl, H4⟩
    go_wp2_with fail
    refine (G3.out _ _ H4).mono ?_
    rintro e w5 ⟨rfl, H5⟩
    go_wp2_with fail
    go_ret
    subst HB
    exact ⟨rfl, H5.below⟩

end Go.Proofs.Ytmihlbecmagmbaa
