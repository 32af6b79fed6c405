import Derived.Test.YtmihlbecmagmbaaBits
import Derived.Test.YtmihlbecmagmbaaPlain2
import Derived.Test.YtmihlbecmagmbaaBase
import Derived.Deep.QuietTactic
namespace Go.Proofs.Ytmihlbecmagmbaa
open Go.RowKit

/-- A reader, at the head of block b, of the bits l, of which 'at' were read. -/
def Rdr (b : Nat) (l : List Bool) (i : Nat) : HP := HP.ex fun sv => HP.all [HP.pt b #[sv, .int .i64 (l.length : Int), .int .i64 (i : Int)] 87, HP.row 5 1 sv (pk l).length ((pk l).map u8v)]

theorem Rdr.open {w : World} {b : Nat} {l : List Bool} {i : Nat} {R : List HP} (h : Sep w (Rdr b l i :: R)) :
    ∃ sv, Sep w (HP.pt b #[sv, .int .i64 (l.length : Int), .int .i64 (i : Int)] 87 :: HP.row 5 1 sv (pk l).length ((pk l).map u8v) :: R) := by
  obtain ⟨sv, h⟩ := h.ex_elim
  exact ⟨sv, h.all_elim⟩

theorem Rdr.shut {w : World} {b : Nat} {l : List Bool} {i : Nat} {sv : Value} {R : List HP} (h : Sep w (HP.pt b #[sv, .int .i64 (l.length : Int), .int .i64 (i : Int)] 87 :: HP.row 5 1 sv (pk l).length ((pk l).map u8v) :: R)) : Sep w (Rdr b l i :: R) :=
  Sep.ex_intro sv (Sep.all_intro h)

theorem Wr.shut {w : World} {b : Nat} {l : List Bool} {sv : Value} {R : List HP} (h : Sep w (HP.pt b #[sv, .int .i64 (l.length : Int)] 42 :: HP.row 5 1 sv (pk l).length ((pk l).map u8v) :: R)) : Sep w (Wr b l :: R) :=
  Sep.ex_intro sv (Sep.all_intro h)

/-- A new writer: 'var w bits.Writer', '&bits.Writer{}'. -/
theorem Wr.new {w : World} {R : List HP} (h : Sep w R) : Sep (w.alloc (.cells #[.slice none 0 0, .int .i64 0] 42)) (Wr w.heap.size [] :: R) :=
  Wr.shut (l := []) (((h.row_nil 5 1).alloc _ _))

theorem u8v_one (l : List Nat) : ∀ u ∈ l.map u8v, u.oneCell' = true := by
  intro u hu; simp [u8v] at hu; obtain ⟨a, _, rfl⟩ := hu; rfl

set_option maxHeartbeats 400000 in
theorem bytes_ok {b : Nat} {l : List Bool} {R : List HP} {w : World} (hl : l.length ≤ 33554432) (H : Sep w (Wr b l :: R)) :
    Calls Try.prog 33 #[.pointer (some ⟨b, 0, none⟩)] w (Gives fun v w' => Sep w' (HP.row 5 1 v (pk l).length ((pk l).map u8v) :: Wr b l :: R)) := by
  obtain ⟨sv, H⟩ := Wr.open H
  have c0 : w.cell? ⟨b, 0, none⟩ = some sv := H.cell 0 rfl
  have hrd := H.swap.rd
  have h63 : (pk l).length ≤ maxLen := by rw [pk_length]; unfold maxLen; omega
  have hby : (pk l).length * 1 ≤ 140737488355328 := by rw [pk_length]; omega
  go_enter Try.func33, Try.ntmps33
  go_wp2_with ((at_builtin; go_must (refine wpList_append_copy rfl _ (.tmp 8) 40 rfl 5 (.int .u8 0) 1 1 Try.underlying40 info_u8 rfl (by decide) rfl H sv _ _ rfl hrd (u8v_one _) h63 hby ?_); intro a' cap' w' H'))
  go_ret
  refine ⟨_, rfl, ?_⟩
  exact (Wr.shut H'.mid2).swap

set_option maxHeartbeats 400000 in
theorem bytes_nil {w : World} : Calls Try.prog 33 #[.pointer none] w fun e w' => e = .returned (.slice none 0 0) ∧ w = w' := by
  go_enter Try.func33, Try.ntmps33
  go_wp2
  go_ret
  exact ⟨rfl, rfl⟩

set_option maxHeartbeats 400000 in
theorem len_nil {w : World} : Calls Try.prog 24 #[.pointer none] w fun e w' => e = .returned (.int .i64 0) ∧ w = w' := by
  go_enter Try.func24, Try.ntmps24
  go_wp2
  go_ret
  exact ⟨rfl, rfl⟩

set_option maxHeartbeats 400000 in
theorem put_nil (v n : Int) {w : World} : Calls Try.prog 46 #[.pointer none, .int .u64 v, .int .i64 n] w fun e w' => e = .returned (.int .i64 1) ∧ w = w' := by
  go_enter Try.func46, Try.ntmps46
  go_wp2
  go_ret
  exact ⟨rfl, rfl⟩

set_option maxHeartbeats 400000 in
theorem put_neg (v n : Int) (hn : n < 0) (b : Nat) {w : World} : Calls Try.prog 46 #[.pointer (some ⟨b, 0, none⟩), .int .u64 v, .int .i64 n] w fun e w' => e = .returned (.int .i64 2) ∧ w = w' := by
  go_enter Try.func46, Try.ntmps46
  go_wp2
  go_ret
  exact ⟨rfl, rfl⟩

set_option maxHeartbeats 400000 in
theorem put_wide (v n : Int) (hn : 64 < n) (b : Nat) {w : World} : Calls Try.prog 46 #[.pointer (some ⟨b, 0, none⟩), .int .u64 v, .int .i64 n] w fun e w' => e = .returned (.int .i64 2) ∧ w = w' := by
  go_enter Try.func46, Try.ntmps46
  go_wp2
  go_ret
  exact ⟨rfl, rfl⟩

set_option maxHeartbeats 400000 in
theorem put_great (v n : Nat) (hn : n < 64) (hv : ((v : Int) / 2 ^ n != 0) = true) (b : Nat) {w : World} : Calls Try.prog 46 #[.pointer (some ⟨b, 0, none⟩), .int .u64 (v : Int), .int .i64 (n : Int)] w fun e w' => e = .returned (.int .i64 2) ∧ w = w' := by
  go_enter Try.func46, Try.ntmps46
  go_wp2
  all_goals
    go_ret
    exact ⟨rfl, rfl⟩

/-- Put, of whole numbers, whatever fits or not: where it is in range. -/
theorem put_int {v n : Int} {b : Nat} {l : List Bool} {R : List HP} {w : World} (hv0 : 0 ≤ v) (hn0 : 0 ≤ n) (hn : n ≤ 64) (hv : v.toNat < 2 ^ n.toNat) (hl : l.length + n.toNat ≤ 33554432) (H : Sep w (Wr b l :: R)) :
    Calls Try.prog 46 #[.pointer (some ⟨b, 0, none⟩), .int .u64 v, .int .i64 n] w fun e w' => e = .returned (.int .i64 0) ∧ Sep w' (Wr b (l ++ valBits v.toNat n.toNat) :: R) := by
  have h := put_ok (v := v.toNat) (n := n.toNat) (by omega) hv hl H
  rw [Int.toNat_of_nonneg hv0, Int.toNat_of_nonneg hn0] at h
  exact h

end Go.Proofs.Ytmihlbecmagmbaa
