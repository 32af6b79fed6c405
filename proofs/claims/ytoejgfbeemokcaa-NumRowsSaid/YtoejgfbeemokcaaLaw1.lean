import Derived.Test.YtoejgfbeemokcaaRef1c
namespace Go.Proofs.Ytoejgfbeemokcaa
open Go.RowKit

set_option maxHeartbeats 1000000 in
theorem awake1 {R : List HP} {w : World} (H : Sep w R) :
    Calls Try.prog 19 #[] w fun e w' => e = .returned (.bool true) ∧ Sep w' R := by
  have H1 := Wr.new H
  go_enter Try.func19, Try.ntmps19
  go_wp2_with fail
  refine (put_int (by omega) (by omega) (by omega) (by decide) (by decide) H1).mono ?_
  rintro e w2 ⟨rfl, H2⟩
  generalize w.heap.size = b at H2 ⊢
  clear H1
  go_wp2_with fail
  refine (put_int (by omega) (by omega) (by omega) (by decide) (by decide) H2).mono ?_
  rintro e w3 ⟨rfl, H3⟩
  clear H2
  rw [show ([] ++ valBits (5 : Int).toNat (3 : Int).toNat ++ valBits (1 : Int).toNat (2 : Int).toNat) = [true, false, true, false, true] from by decide] at H3
  go_wp2_with fail
  refine (bytes_ok (by decide) H3).mono ?_
  rintro e w4 ⟨v, rfl, H4⟩
  clear H3
  rw [show pk [true, false, true, false, true] = [168] from by decide] at H4
  obtain ⟨g, cap, _, rfl, hz⟩ := H4.row_open (by decide)
  clear hz
  have hrd : RdS w4 (.slice (some ⟨g, 0, none⟩) [168].length cap) (pk [true, false, true, false, true]).length 1 ((pk [true, false, true, false, true]).map u8v) := H4.rd
  go_wp2_with fail
  refine (nr_ok (l := [true, false, true, false, true]) (by decide) hrd H4).mono ?_
  rintro e w5 ⟨v, rfl, b5, rfl, H5⟩
  clear H4 hrd
  go_wp2_with fail
  refine (get_int (by omega) (by omega) (by decide) (by decide) H5).mono ?_
  rintro e w6 ⟨rfl, H6⟩
  clear H5
  rw [show ofBits (([true, false, true, false, true].drop 0).take (3 : Int).toNat) = 5 from by decide]
  have H6 : Sep w6 (Rdr b5 [true, false, true, false, true] 3 :: _) := H6
  go_wp2_with fail
  refine (get_end_int (by omega) (by omega) (by decide) (by decide) (by decide) H6).mono ?_
  rintro e w7 ⟨rfl, n, rfl⟩
  have H7 := H6.drewN n
  generalize w6.drewN n = w7 at H7 ⊢
  clear H6
  have c0 : w7.cell? ⟨g, 0, none⟩ = some (.int .u8 168) := H7.tail.row_cell 0 rfl
  go_wp2_with fail
  refine (len_calls H7.tail.tail).mono ?_
  rintro e w8 ⟨rfl, rfl⟩
  go_wp2_with fail
  refine (at_ok H7).mono ?_
  rintro e w8 ⟨rfl, rfl⟩
  go_wp2_with fail
  refine (left_ok (by decide) (by decide) H7).mono ?_
  rintro e w8 ⟨rfl, n, rfl⟩
  go_wp2_with fail
  go_ret
  exact ⟨rfl, (H7.drewN n).tail.tail.tail⟩

end Go.Proofs.Ytoejgfbeemokcaa
