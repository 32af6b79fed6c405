/- Law 02: text and reader. -/
import Derived.Test.YtoejgfbeemokcaaRBytes
namespace Go.Proofs.Ytoejgfbeemokcaa
open Go.RowKit

theorem rbits_int {v : Value} {bs : List Nat} {n : Nat} {m : Int} {w : World} (hm : m = (n : Int)) (hb : ∀ x ∈ bs, x < 256) (hn : n ≤ 8 * bs.length) (hn2 : n ≤ 1048576) (hrd : RdS w v bs.length 1 (bs.map u8v)) :
    Calls Try.prog 58 #[v, .int .i64 m] w fun e w' => e = .returned (.string (bitStr ((allBits bs).take n))) ∧ w = w' := by
  subst hm; exact rbits_calls hb hn hn2 hrd

/-- The bits that a law's text holds. -/
def textOf (bs : List Nat) (less : Int) : List Bool := (allBits bs).take (8 * bs.length - (less % 8).toNat)
theorem textOf_length (bs : List Nat) (less : Int) : (textOf bs less).length = 8 * bs.length - (less % 8).toNat := by
  unfold textOf; rw [List.length_take, allBits_length]; omega

set_option maxRecDepth 100000 in
set_option maxHeartbeats 1000000 in
theorem text_calls {v : Value} {bs : List Nat} {less : Int} {w : World} (h0 : 0 ≤ less) (h1 : less ≤ 255) (hb : ∀ x ∈ bs, x < 256) (hl : bs.length ≤ 1000) (hrd : RdS w v bs.length 1 (bs.map u8v)) :
    Calls Try.prog 50 #[v, .int .u8 less] w fun e w' => e = .returned (.string (bitStr (textOf bs less))) ∧ w = w' := by
  obtain ⟨a, cap, rfl⟩ := hrd.form
  have HRD := Lib.hid hrd; clear hrd
  have HBB := Lib.hid hb; clear hb
  have hlI : (bs.length : Int) ≤ 1000 := by omega
  go_enter Try.func50, Try.ntmps50
  go_wp2_with fail
  refine (rbits_int (n := 8 * bs.length - (less % 8).toNat) (by omega) HBB.out (by omega) (by omega) HRD.out).mono ?_
  rintro e w1 ⟨rfl, rfl⟩
  go_wp2_with fail
  go_ret
  exact ⟨rfl, rfl⟩

set_option maxRecDepth 100000 in
set_option maxHeartbeats 1000000 in
theorem reader_calls {l : List Bool} {R : List HP} {w : World} (hl : l.length ≤ 33554432) (H : Sep w R) :
    Calls Try.prog 51 #[.string (bitStr l)] w (Gives fun r w' => ∃ b, r = .pointer (some ⟨b, 0, none⟩) ∧ Sep w' (Rdr b l 0 :: R)) := by
  have hsz : ((bitStr l).size : Int) = (l.length : Int) := by rw [bitStr_size]
  have HSZ := Lib.hid hsz
  go_enter Try.func51, Try.ntmps51
  go_wp2_with fail
  refine (rbytes2_calls (by omega) H).mono ?_
  rintro e w1 ⟨r, rfl, H1⟩
  obtain ⟨ra, rc, rfl⟩ := H1.row_form
  go_wp2_with fail
  refine (nr_ok hl H1.rd H1.tail).mono ?_
  rintro e w2 ⟨r2, rfl, b, rfl, H2⟩
  go_wp2_with fail
  go_ret
  exact ⟨_, rfl, b, rfl, H2⟩

end Go.Proofs.Ytoejgfbeemokcaa
