import Derived.Test.YtmihlbecmagmbaaBits4
import Derived.Test.YtmihlbecmagmbaaSepLaws2
namespace Go.Proofs.Ytmihlbecmagmbaa
open Go.RowKit

/-- A bit as an int. -/
def bitv (x : Bool) : Value := .int .i64 (x.toNat : Int)
theorem info_int : (Try.prog.info? 3).map (fun i => (i.zero, i.size, i.bytes)) = some (some (.int .i64 0), 1, 8) := by kernel_rfl
theorem bitv_one (l : List Bool) : ∀ u ∈ l.map bitv, u.oneCell' = true := by
  intro u hu; simp [bitv] at hu; rcases hu with ⟨_, rfl⟩ | ⟨_, rfl⟩ <;> rfl

theorem ret_bool {a b : Bool} (h : a = b) : Ending.returned (.bool a) = .returned (.bool b) := by rw [h]
theorem ret_i64 {a b : Int} (h : a = b) : Ending.returned (.int .i64 a) = .returned (.int .i64 b) := by rw [h]

theorem div_two (v k : Nat) : ((v : Int) / 2 ^ k) / 2 = (v : Int) / 2 ^ (k + 1) := by
  rw [Int.ediv_ediv_of_nonneg (by exact Int.pow_nonneg (by decide)), Int.pow_succ]

/-! ## Value -/

theorem value_step (v n k : Nat) (h : k < n) : (valBits v n).drop k = v.testBit (n - (k + 1)) :: (valBits v n).drop (k + 1) := by
  have hlt : k < (valBits v n).length := by rw [valBits_length]; omega
  rw [List.drop_eq_getElem_cons hlt]
  congr 1
  simp only [valBits, List.getElem_map, List.getElem_range]
  congr 1; omega

theorem set_replicate (k : Nat) (z u : Value) (L : List Value) : (List.replicate (k + 1) z ++ L).set k u = List.replicate k z ++ u :: L := by
  rw [List.replicate_succ', List.append_assoc, List.set_append_right _ _ (by simp)]
  simp

end Go.Proofs.Ytmihlbecmagmbaa
