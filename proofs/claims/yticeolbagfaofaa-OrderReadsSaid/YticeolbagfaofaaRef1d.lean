import Derived.Test.YticeolbagfaofaaNr
namespace Go.Proofs.Yticeolbagfaofaa
open Go.RowKit

/-- Value, of whole numbers. -/
theorem value_int {v n : Int} (hv0 : 0 ≤ v) (hv : v ≤ 18446744073709551615) (hn0 : 0 ≤ n) (hn : n ≤ 64) {R : List HP} {w : World} (H : Sep w R) :
    Calls Try.prog 34 #[.int .u64 v, .int .i64 n] w (Gives fun r w' => Sep w' (HP.row 3 1 r n.toNat ((valBits v.toNat n.toNat).map bitv) :: R)) := by
  have h64 : (2 : Nat) ^ 64 = 18446744073709551616 := by decide +kernel
  have h := value_calls (v := v.toNat) (n := n.toNat) (by omega) (by omega) H
  rw [Int.toNat_of_nonneg hv0, Int.toNat_of_nonneg hn0] at h
  exact h

theorem allBits_take_succ (bs : List Nat) (k : Nat) (h : k < bs.length) : allBits (bs.take (k + 1)) = allBits (bs.take k) ++ valBits bs[k] 8 := by
  rw [List.take_succ_eq_append_getElem h, allBits_append]
  simp [allBits]

set_option maxRecDepth 100000 in
set_option maxHeartbeats 1000000 in
theorem all_calls {v : Value} {bs : List Nat} {R : List HP} {w : World} (hl : bs.length ≤ 1073741824) (hb : ∀ x ∈ bs, x < 256) (hrd : Reads R v bs.length 1 (bs.map u8v)) (H : Sep w R) :
    Calls Try.prog 16 #[v] w (Gives fun r w' => Sep w' (HP.row 3 1 r (8 * bs.length) ((allBits bs).map bitv) :: R)) := by
  obtain ⟨a, cap, rfl⟩ := (hrd w H).form
  have HRD := Lib.hid hrd; clear hrd
  have HBB := Lib.hid hb; clear hb
  go_enter Try.func16, Try.ntmps16
  go_wp2
  go_loopw [3, 4] (fun o i wr => ∃ k : Nat, k ≤ bs.length ∧ i = .int .i64 (k : Int) ∧ Sep wr (HP.row 3 1 o (8 * k) ((allBits (bs.take k)).map bitv) :: R)) (fun _ i _ => bs.length - (intOf i).toNat)
  case atStart => exact ⟨0, by omega, rfl, by simpa [allBits] using H.row_nil _ _⟩
  case round =>
    obtain ⟨k, hk, rfl, Hr⟩ := hrel
    by_cases hlt : k < bs.length
    · obtain ⟨oa, oc, rfl⟩ := Hr.row_form
      have hrw := HRD.out wr Hr.tail
      obtain ⟨g, o, cap', he⟩ := hrw.open (by omega)
      simp only [Value.slice.injEq, true_and] at he
      obtain ⟨rfl, rfl⟩ := he
      have hc : wr.cell? ⟨g, o + k, none⟩ = some (.int .u8 (bs[k] : Int)) := hrw.cell _ (u8v_get _ _ hlt)
      have hx : bs[k] < 256 := HBB.out _ (List.getElem_mem hlt)
      have hs := allBits_take_succ bs k hlt
      generalize bs[k] = x at hc hx hs
      have HS := Lib.hid hs; clear hs
      go_wp2_with fail
      refine (value_int (by omega) (by omega) (by omega) (by omega) Hr).mono ?_
      rintro e w1 ⟨r, rfl, H1⟩
      obtain ⟨ra, rc, rfl⟩ := H1.row_form
      have H2 := H1.swap
      have hrd1 := H1.rd
      have h63 : 8 * k + (8 : Int).toNat ≤ maxLen := by have : (8 : Int).toNat = 8 := rfl; unfold maxLen; omega
      have hby : (8 * k + (8 : Int).toNat) * 8 ≤ 140737488355328 := by have : (8 : Int).toNat = 8 := rfl; omega
      clear hrw hc H1
      go_wp2_with ((at_builtin; go_must (refine wpList_append_src rfl (.tmp 11) (.tmp 17) 22 rfl 3 (.int .i64 0) 1 8 Try.underlying22 info_int rfl (by decide) _ _ _ rfl H2 (.slice ra (8 : Int).toNat rc) _ _ rfl hrd1 (bitv_one _) h63 hby ?_); intro v3 w3 H3; obtain ⟨va, vc, hv3⟩ := H3.row_form; subst hv3))
      have H4 := H3.swap.tail
      go_roundw
      case rel => exact ⟨k + 1, by omega, by go_num, by
        have e1 : 8 * k + (8 : Int).toNat = 8 * (k + 1) := by have : (8 : Int).toNat = 8 := rfl; omega
        rw [HS.out, List.map_append, ← e1]
        have e2 : (x : Int).toNat = x := rfl
        rw [e2] at H4
        exact H4⟩
      case measure => simp [intOf]; omega
    · go_wp2
      go_ret
      have e : k = bs.length := by omega
      subst e
      exact ⟨_, rfl, by rw [List.take_length] at Hr; exact Hr⟩

/-- What Open gives. -/
def OpenPost (bs : List Nat) (n : Int) (R : List HP) (r : Value) (w' : World) : Prop :=
  ((openBits bs n).1 ≠ 0 ∧ r = .tuple #[.slice none 0 0, .int .i64 ((openBits bs n).1 : Int)] ∧ Sep w' R) ∨
  ∃ v l, openBits bs n = (0, l) ∧ r = .tuple #[v, .int .i64 0] ∧ Sep w' (HP.row 3 1 v l.length (l.map bitv) :: R)

/-- A shorter slice of an owned row. -/
theorem Sep.row_take {w : World} {e : TypeId} {a : Option Addr} {n cap m : Nat} {xs : List Value} {L : List HP} (h : Sep w (HP.row e 1 (.slice a n cap) n xs :: L)) (hm : m ≤ n) (hn : n ≠ 0) : Sep w (HP.row e 1 (.slice a m cap) m (xs.take m) :: L) := by
  obtain ⟨g, cap', cur, he, h1, h2, h3, h4, h5⟩ := h.row_open hn
  simp only [Value.slice.injEq, true_and] at he
  obtain ⟨rfl, rfl⟩ := he
  refine Sep.row_shut h5 (by omega) h2 h3 ?_
  rw [← h4, List.take_take, Nat.mul_one, Nat.mul_one, Nat.min_eq_left hm]

end Go.Proofs.Yticeolbagfaofaa
