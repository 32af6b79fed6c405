import Derived.Test.YticeolbagfaofaaBits4
import Derived.Test.YticeolbagfaofaaSepLaws2
namespace Go.Proofs.Yticeolbagfaofaa
open Go.RowKit

/-- A bit as an int. -/
def bitv (x : Bool) : Value := .int .i64 (x.toNat : Int)
theorem info_int : (Try.prog.info? 3).map (fun i => (i.zero, i.size, i.bytes)) = some (some (.int .i64 0), 1, 8) := by kernel_rfl
theorem bitv_one (l : List Bool) : ∀ u ∈ l.map bitv, u.oneCell' = true := by
  intro u hu; simp [bitv] at hu; rcases hu with ⟨_, rfl⟩ | ⟨_, rfl⟩ <;> rfl

theorem ret_bool {a b : Bool} (h : a = b) : Ending.returned (.bool a) = .returned (.bool b) := by rw [h]
theorem ret_i64 {a b : Int} (h : a = b) : Ending.returned (.int .i64 a) = .returned (.int .i64 b) := by rw [h]

theorem div_two (v k : Nat) : ((v : Int) / 2 ^ k) / 2 = (v : Int) / 2 ^ (k + 1) := by
  rw [Int.ediv_ediv_of_nonneg (by exact Int.pow_nonneg (by decide)), Int.pow_succ]

/-! ## Value -/

theorem value_step (v n k : Nat) (h : k < n) : (valBits v n).drop k = v.testBit (n - (k + 1)) :: (valBits v n).drop (k + 1) := by
  have hlt : k < (valBits v n).length := by rw [valBits_length]; omega
  rw [List.drop_eq_getElem_cons hlt]
  congr 1
  simp only [valBits, List.getElem_map, List.getElem_range]
  congr 1; omega

theorem set_replicate (k : Nat) (z u : Value) (L : List Value) : (List.replicate (k + 1) z ++ L).set k u = List.replicate k z ++ u :: L := by
  rw [List.replicate_succ', List.append_assoc, List.set_append_right _ _ (by simp)]
  simp

set_option maxHeartbeats 1000000 in
theorem value_calls {v n : Nat} (hv : v < 2 ^ 64) (hn : n ≤ 64) {R : List HP} {w : World} (H : Sep w R) :
    Calls Try.prog 34 #[.int .u64 (v : Int), .int .i64 (n : Int)] w (Gives fun r w' => Sep w' (HP.row 3 1 r n ((valBits v n).map bitv) :: R)) := by
  have HV := Lib.hid hv; clear hv
  have hby : 8 * n ≤ 281474976710656 := by omega
  have hmx : n ≤ maxLen := by unfold maxLen; omega
  go_enter Try.func34, Try.ntmps34
  go_wp2_with ((at_make; go_must (refine wpList_make_sep rfl _ _ 22 rfl 3 (.int .i64 0) 8 Try.underlying22 info_int rfl H .i64 .i64 (n : Int) (n : Int) n rfl rfl rfl rfl hby hmx ?_); intro g w1 H1))
  go_loopw [0, 6] (fun x i wr => ∃ k : Nat, k ≤ n ∧ i = .int .i64 ((k : Int) - 1) ∧ x = .int .u64 ((v / 2 ^ (n - k) : Nat) : Int) ∧ Sep wr (HP.row 3 1 (.slice (some ⟨g, 0, none⟩) n n) n (List.replicate k (.int .i64 0) ++ ((valBits v n).drop k).map bitv) :: R)) (fun _ i _ => (intOf i + 1).toNat)
  case atStart => exact ⟨n, by omega, rfl, by simp, by simpa [List.drop_of_length_le, valBits_length] using H1⟩
  case round =>
    clear H1
    obtain ⟨k, hk, rfl, rfl, Hr⟩ := hrel
    by_cases hk0 : k = 0
    · subst hk0
      go_wp2
      go_ret
      exact ⟨_, rfl, by simpa using Hr⟩
    · obtain ⟨j, rfl⟩ : ∃ j, k = j + 1 := ⟨k - 1, by omega⟩
      have hb : v / 2 ^ (n - (j + 1)) ≤ 18446744073709551615 := by
        have h64 : (2 : Nat) ^ 64 = 18446744073709551616 := by decide +kernel
        have := Nat.div_le_self v (2 ^ (n - (j + 1))); have := HV.out; omega
      have hx : ((v / 2 ^ (n - (j + 1)) : Nat) : Int) % 2 = ((v.testBit (n - (j + 1))).toNat : Int) := by
        have := testBit_int v (n - (j + 1)); simpa using this
      have hnext : ((v / 2 ^ (n - (j + 1)) : Nat) : Int) / 2 = ((v / 2 ^ (n - j) : Nat) : Int) := by
        have e : n - j = n - (j + 1) + 1 := by omega
        rw [e, Nat.pow_succ, ← Nat.div_div_eq_div_mul]; first | rfl | done
      have hd := value_step v n j (by omega)
      have hset := set_replicate j (.int .i64 0) (bitv (v.testBit (n - (j + 1)))) (((valBits v n).drop (j + 1)).map bitv)
      have hc : wr.cell? ⟨g, j, none⟩ = some (.int .i64 0) := Hr.row_cell j (by rw [List.getElem?_append_left (by simp)]; simp)
      have hf := Hr.row_froz j
      have hrow := Hr.row_set j (bitv (v.testBit (n - (j + 1))))
      rw [hset] at hrow
      generalize v / 2 ^ (n - (j + 1)) = x at hb hx hnext ⊢
      generalize v.testBit (n - (j + 1)) = y at *
      have HN := Lib.hid hnext
      have HD := Lib.hid hd
      have hj : j < n := by omega
      have hj2 : n ≤ 64 := hn
      clear hnext hd hset hk0
      have hjj : ((j + 1 : Nat) : Int) - 1 = (j : Int) := by omega
      rw [hjj]
      clear hjj
      have hy : 0 ≤ (y.toNat : Int) ∧ (y.toNat : Int) ≤ 1 := by have := Bool.toNat_le y; omega
      go_wp2
      go_roundw
      case rel => exact ⟨j, by omega, rfl, by rw [HN.out], by rw [HD.out]; exact hrow⟩
      case measure => simp [intOf]

end Go.Proofs.Yticeolbagfaofaa
