/- Chapter 25: the document's example. -/
import Derived.Test.YticeolbagfaofaaOrd8
namespace Go.Proofs.Yticeolbagfaofaa
open Go.RowKit

theorem enc201 : encB [2, 0, 1] = [true, false, false] := by decide +kernel

set_option maxRecDepth 100000 in
set_option maxHeartbeats 2000000 in
theorem awake25 {R : List HP} {w : World} (H : Sep w R) :
    Calls Try.prog 11 #[] w fun e w' => e = .returned (.bool true) ∧ Sep w' R := by
  have H1 := Wr.new H
  have H2 : Sep ((w.alloc (.cells #[.slice none 0 0, .int .i64 0] 27)).alloc (.cells #[.int .i64 2, .int .i64 0, .int .i64 1] 3)) (HP.row 3 1 (.slice (some ⟨(w.alloc (.cells #[.slice none 0 0, .int .i64 0] 27)).heap.size, 0, none⟩) 3 3) 3 (([2, 0, 1] : List Int).map iv) :: Wr w.heap.size [] :: R) :=
    Sep.row_shut (H1.alloc #[.int .i64 2, .int .i64 0, .int .i64 1] 3) (Nat.le_refl _) (by unfold maxLen; omega) rfl rfl
  have hr201 : rightB [2, 0, 1] = true := by decide
  have hr1 : rightB [1] = false := by decide
  go_enter Try.func11, Try.ntmps11
  go_wp2_with fail
  generalize (w.alloc (.cells #[.slice none 0 0, .int .i64 0] 27)).alloc (.cells #[.int .i64 2, .int .i64 0, .int .i64 1] 3) = w2 at H2 ⊢
  have hq : (w.alloc (.cells #[.slice none 0 0, .int .i64 0] 27)).heap.size = w.heap.size + 1 := Array.size_push _
  rw [hq] at H2
  generalize w.heap.size = q at H2 ⊢
  clear H1 hq
  refine (encode_ok (xs := [2, 0, 1]) (l := []) hr201 (by decide) (by decide) Reads.row H2.swap).mono ?_
  rintro e w3 ⟨rfl, H3⟩
  rw [enc201, List.nil_append] at H3
  clear H2
  go_wp2_with fail
  refine (bytes_ok (by decide) H3).mono ?_
  rintro e w4 ⟨v, rfl, H4⟩
  clear H3
  rw [show pk [true, false, false] = [128] from by decide] at H4
  obtain ⟨g4, cap4, _, rfl, hz⟩ := H4.row_open (by decide)
  clear hz
  have hrd : RdS w4 (.slice (some ⟨g4, 0, none⟩) [128].length cap4) (pk [true, false, false]).length 1 ((pk [true, false, false]).map u8v) := H4.rd
  go_wp2_with fail
  refine (len_calls H4.tail).mono ?_
  rintro e w5 ⟨rfl, rfl⟩
  go_wp2_with fail
  refine (nr_ok (l := [true, false, false]) (by decide) hrd H4).mono ?_
  rintro e w5 ⟨v, rfl, b5, rfl, H5⟩
  clear H4 hrd
  go_wp2_with fail
  refine (decode_calls (n := 3) (by decide) (by decide) (by decide) H5).mono ?_
  rintro e w6 ⟨r, rfl, hpost⟩
  have hd : decR 3 (numsL 3) (([true, false, false] : List Bool).drop 0) = ([2, 0, 1], 3, 0) := by decide +kernel
  unfold DecPost at hpost
  rw [hd] at hpost
  rcases hpost with ⟨hne, -, -⟩ | ⟨-, v6, rfl, -, -, H6⟩
  · exact absurd rfl hne
  obtain ⟨g6, cap6, _, rfl, hz⟩ := H6.row_open (by decide)
  clear hz hd H5
  have c0 : w6.cell? ⟨g4, 0, none⟩ = some (.int .u8 128) := H6.tail.tail.row_cell 0 rfl
  go_wp2_with fail
  refine (len_calls H6.tail.tail.tail).mono ?_
  rintro e w7 ⟨rfl, rfl⟩
  have H7 : Sep (w6.alloc (.cells #[.int .i64 2, .int .i64 0, .int .i64 1] 3)) (HP.row 3 1 (.slice (some ⟨w6.heap.size, 0, none⟩) 3 3) 3 (([2, 0, 1] : List Int).map iv) :: _) :=
    Sep.row_shut (H6.alloc #[.int .i64 2, .int .i64 0, .int .i64 1] 3) (Nat.le_refl _) (by unfold maxLen; omega) rfl rfl
  go_wp2_with fail
  refine (ints_same (xs := [2, 0, 1]) (by decide) H7.tail.rd H7.rd).mono ?_
  rintro e w8 ⟨rfl, n8, rfl⟩
  have H8 := H7.drewN n8
  generalize (w6.alloc (.cells #[.int .i64 2, .int .i64 0, .int .i64 1] 3)).drewN n8 = w8 at H8 ⊢
  clear H7 c0 H6
  go_wp2_with fail
  refine (cost_calls (by decide) (by decide)).mono ?_
  rintro e w9 ⟨rfl, rfl⟩
  rw [show costN (3 : Int).toNat = 3 from by decide +kernel]
  go_wp2_with fail
  refine (oright_calls (xs := [2, 0, 1]) (by decide) Reads.row H8.tail).mono ?_
  rintro e w9 ⟨rfl, H9⟩
  rw [hr201]
  clear H8
  have H10 : Sep (w9.alloc (.cells #[.int .i64 1] 3)) (HP.row 3 1 (.slice (some ⟨w9.heap.size, 0, none⟩) 1 1) 1 (([1] : List Int).map iv) :: _) :=
    Sep.row_shut (H9.alloc #[.int .i64 1] 3) (Nat.le_refl _) (by unfold maxLen; omega) rfl rfl
  go_wp2_with fail
  refine (oright_calls (xs := [1]) (by decide) Reads.row H10).mono ?_
  rintro e w11 ⟨rfl, H11⟩
  rw [hr1]
  go_wp2_with fail
  go_ret
  exact ⟨rfl, H11.tail.tail.tail.tail.tail.tail⟩

end Go.Proofs.Yticeolbagfaofaa
