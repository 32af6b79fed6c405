/- coder: carry, come. -/
import Derived.Test.YtglinpclcmmnbaaCodPlain
import Derived.Test.YtglinpclcmmnbaaCells
import Derived.Test.YtglinpclcmmnbaaTab8
import Derived.Shelf.RegionOpen
namespace Go.Proofs.Ytglinpclcmmnbaa
open Go.RowKit Go.Shelf

/-- A byte. -/
def bv (d : Nat) : Value := .int .u8 (d : Int)
theorem info_byte : (Try.prog.info? 5).map (fun i => (i.zero, i.size, i.bytes)) = some (some (.int .u8 0), 1, 1) := by kernel_rfl
theorem bv_get {l : List Nat} {i d : Nat} (h : l[i]? = some d) : (l.map bv)[i]? = some (.int .u8 (d : Int)) := by rw [List.getElem?_map, h]; rfl

/-- An encoder: its bytes, what stands behind them, how wide it is. -/
def Enc (q k L R : Nat) : HP := HP.ex fun sv => HP.all [HP.pt q #[sv, .int .u64 ((L % 4294967296 : Nat) : Int), .int .u64 (R : Int)] 86, HP.row 5 1 sv k ((digs k (L / 4294967296)).map bv)]
theorem Enc.open {w : World} {q k L R : Nat} {F : List HP} (h : Sep w (Enc q k L R :: F)) :
    ∃ a c, Sep w (HP.pt q #[.slice a k c, .int .u64 ((L % 4294967296 : Nat) : Int), .int .u64 (R : Int)] 86 :: HP.row 5 1 (.slice a k c) k ((digs k (L / 4294967296)).map bv) :: F) := by
  obtain ⟨v, h⟩ := h.ex_elim
  have h := h.all_elim
  obtain ⟨a, c, rfl⟩ := (Sep.tail h).row_form
  exact ⟨a, c, h⟩
theorem Enc.shut {w : World} {q k L R : Nat} {v : Value} {F : List HP} (h : Sep w (HP.pt q #[v, .int .u64 ((L % 4294967296 : Nat) : Int), .int .u64 (R : Int)] 86 :: HP.row 5 1 v k ((digs k (L / 4294967296)).map bv) :: F)) : Sep w (Enc q k L R :: F) :=
  Sep.ex_intro v (Sep.all_intro h)

set_option maxRecDepth 100000 in
set_option maxHeartbeats 2000000 in
theorem carry_calls {q k O : Nat} {sv x y : Value} {F : List HP} {w : World} (hO : O + 1 < 256 ^ k) (hk : k ≤ 100000) (H : Sep w (HP.pt q #[sv, x, y] 86 :: HP.row 5 1 sv k ((digs k O).map bv) :: F)) :
    Calls Try.prog 61 #[.pointer (some ⟨q, 0, none⟩)] w fun e w' => (∃ u, e = .returned u) ∧ Sep w' (HP.pt q #[sv, x, y] 86 :: HP.row 5 1 sv k ((digs k (O + 1)).map bv) :: F) := by
  have hk0 : k ≠ 0 := fun e => by subst e; simp at hO
  obtain ⟨g, cap, _, rfl, _⟩ := H.tail.row_open hk0
  have HO := Lib.hid hO
  clear hO
  have c0 := H.cell 0 rfl
  go_enter Try.func61, Try.ntmps61
  go_wp2_with fail
  clear c0
  go_loopg [2] k (fun gk i wr => ∃ t : Nat, Hid (t ≤ k ∧ gk = k - t) ∧ Hid (O % 256 ^ t = 256 ^ t - 1) ∧ i = .int .i64 ((k : Int) - 1 - (t : Int)) ∧ Sep wr (HP.pt q #[.slice (some ⟨g, 0, none⟩) k cap, x, y] 86 :: HP.row 5 1 (.slice (some ⟨g, 0, none⟩) k cap) k ((digs (k - t) (O / 256 ^ t) ++ List.replicate t 0).map bv) :: F))
  case atStart => exact ⟨0, Lib.hid ⟨by omega, rfl⟩, Lib.hid (by simp [Nat.mod_one]), by go_num, by simpa using H⟩
  case round =>
    clear H
    obtain ⟨t, hq, ho, rfl, Hr⟩ := hrel
    obtain ⟨q1, q2⟩ := hq.out
    clear hq
    have htk : t < k := by
      rcases Nat.lt_or_ge t k with h | h
      · exact h
      · exfalso
        obtain rfl : t = k := by omega
        have h1 := ho.out
        have h2 := HO.out
        rw [Nat.mod_eq_of_lt (by omega)] at h1
        omega
    obtain ⟨j, hj⟩ : ∃ j : Nat, j = k - t - 1 := ⟨_, rfl⟩
    have hji : (k : Int) - 1 - (t : Int) = (j : Int) := by omega
    obtain ⟨d, hd⟩ : ∃ d, d = O / 256 ^ t % 256 := ⟨_, rfl⟩
    have hsp := digs_split htk O
    rw [← hd, ← hj] at hsp
    have hlen : (digs j (O / 256 ^ (t + 1))).length = j := digs_length _ _
    have hget : (((digs (k - t) (O / 256 ^ t) ++ List.replicate t 0).map bv))[j]? = some (.int .u8 (d : Int)) := by
      rw [hsp, List.append_assoc]
      exact bv_get (by rw [List.getElem?_append_right (by omega), hlen, Nat.sub_self]; rfl)
    have hset : ∀ y : Nat, ((digs (k - t) (O / 256 ^ t) ++ List.replicate t 0).map bv).set j (.int .u8 (y : Int)) = (digs j (O / 256 ^ (t + 1)) ++ [y] ++ List.replicate t 0).map bv := fun y => by
      rw [hsp, List.append_assoc, List.map_append, List.set_append_right _ _ (by rw [List.length_map, hlen]; exact Nat.le_refl _), List.length_map, hlen, Nat.sub_self]
      simp [bv]
    have hdl : d < 256 := by omega
    have c0 := Hr.cell 0 rfl
    have c1 := Hr.tail.row_cell j hget
    have f1 := Hr.tail.row_froz j
    rw [hji]
    have HJ := Lib.hid hji
    have HS := Lib.hid hset
    have hjk : (j : Int) < (k : Int) := by omega
    by_cases h255 : d = 255
    · have hon := digs_ones ho.out (by rw [← hd]; exact h255)
      have H2 := Hr.swap.row_set j (.int .u8 0)
      have hs0 : ((digs (k - t) (O / 256 ^ t) ++ List.replicate t 0).map bv).set j (.int .u8 0) = (digs j (O / 256 ^ (t + 1)) ++ [0] ++ List.replicate t 0).map bv := HS.out 0
      rw [hs0] at H2
      have H3 := H2.swap
      have hnx : (digs j (O / 256 ^ (t + 1)) ++ [0] ++ List.replicate t 0) = digs (k - (t + 1)) (O / 256 ^ (t + 1)) ++ List.replicate (t + 1) 0 := by
        rw [List.append_assoc, hj, show k - (t + 1) = k - t - 1 by omega]
        rfl
      rw [hnx] at H3
      have d0 := H3.cell 0 rfl
      have d1 := H3.tail.row_cell j (u := .int .u8 0) (by
        rw [show k - (t + 1) = j by omega]
        exact bv_get (d := 0) (by rw [List.getElem?_append_right (by omega), hlen, Nat.sub_self, List.replicate_succ]; rfl))
      have HON := Lib.hid hon
      clear hget hset hsp hd hj hji hon hnx H2 hs0
      subst h255
      go_wp2_with fail
      go_roundg (k - (t + 1))
      case rel => exact ⟨t + 1, Lib.hid ⟨by omega, rfl⟩, HON, by have := HJ.out; go_num, H3⟩
      case measure => omega
    · have hca := digs_carry htk ho.out (by rw [← hd]; exact h255)
      rw [← hd, ← hj] at hca
      have H2 := Hr.swap.row_set j (.int .u8 ((d + 1 : Nat) : Int))
      rw [HS.out (d + 1), ← hca] at H2
      have H3 := H2.swap
      have hcast : ((d + 1 : Nat) : Int) = (d : Int) + 1 := by omega
      rw [hcast] at H3
      have e1 : ((d : Int) + 1 != 0) = true := by simp; omega
      have e2 : ((d : Int) + 1) % 256 = (d : Int) + 1 := by omega
      have d0 := H3.cell 0 rfl
      have d1 : (wr.setCell ⟨g, j, none⟩ (.int .u8 ((d : Int) + 1))).cell? ⟨g, j, none⟩ = some (.int .u8 ((d : Int) + 1)) := World.cell?_setCell_same' _ _ _ (by rw [c1]; rfl)
      clear hget hset hsp hca hd hj hji H2 hcast
      go_wp2_with fail
      refine bodyPost_ret (results_none rfl _ _ _) rfl ?_
      exact ⟨⟨_, rfl⟩, H3⟩

end Go.Proofs.Ytglinpclcmmnbaa
