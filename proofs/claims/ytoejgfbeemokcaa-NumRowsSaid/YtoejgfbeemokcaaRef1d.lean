import Derived.Test.YtoejgfbeemokcaaNr
namespace Go.Proofs.Ytoejgfbeemokcaa
open Go.RowKit

/-- Value, of whole numbers. -/
theorem value_int {v n : Int} (hv0 : 0 ≤ v) (hv : v ≤ 18446744073709551615) (hn0 : 0 ≤ n) (hn : n ≤ 64) {R : List HP} {w : World} (H : Sep w R) :
    Calls Try.prog 21 #[.int .u64 v, .int .i64 n] w (Gives fun r w' => Sep w' (HP.row 3 1 r n.toNat ((valBits v.toNat n.toNat).map bitv) :: R)) := by
  have h64 : (2 : Nat) ^ 64 = 18446744073709551616 := by decide +kernel
  have h := value_calls (v := v.toNat) (n := n.toNat) (by omega) (by omega) H
  rw [Int.toNat_of_nonneg hv0, Int.toNat_of_nonneg hn0] at h
  exact h

theorem allBits_take_succ (bs : List Nat) (k : Nat) (h : k < bs.length) : allBits (bs.take (k + 1)) = allBits (bs.take k) ++ valBits bs[k] 8 := by
  rw [List.take_succ_eq_append_getElem h, allBits_append]
  simp [allBits]

set_option maxRecDepth 100000 in
set_option maxHeartbeats 1000000 in
theorem all_calls {v : Value} {bs : List Nat} {R : List HP} {w : World} (hl : bs.length ≤ 1073741824) (hb : ∀ x ∈ bs, x < 256) (hrd : Reads R v bs.length 1 (bs.map u8v)) (H : Sep w R) :
    Calls Try.prog 56 #[v] w (Gives fun r w' => Sep w' (HP.row 3 1 r (8 * bs.length) ((allBits bs).map bitv) :: R)) := by
  obtain ⟨a, cap, rfl⟩ := (hrd w H).form
  have HRD := Lib.hid hrd; clear hrd
  have HBB := Lib.hid hb; clear hb
  go_enter Try.func56, Try.ntmps56
  go_wp2
  go_loopw [3, 4] (fun o i wr => ∃ k : Nat, k ≤ bs.length ∧ i = .int .i64 (k : Int) ∧ Sep wr (HP.row 3 1 o (8 * k) ((allBits (bs.take k)).map bitv) :: R)) (fun _ i _ => bs.length - (intOf i).toNat)
  case atStart => exact ⟨0, by omega, rfl, by simpa [allBits] using H.row_nil _ _⟩
  case round =>
    obtain ⟨k, hk, rfl, Hr⟩ := hrel
    by_cases hlt : k < bs.length
    · obtain ⟨oa, oc, rfl⟩ := Hr.row_form
      have hrw := HRD.out wr Hr.tail
      obtain ⟨g, o, cap', he⟩ := hrw.open (by omega)
      simp only [Value.slice.injEq, true_and] at he
      obtain ⟨rfl, rfl⟩ := he
      have hc : wr.cell? ⟨g, o + k, none⟩ = some (.int .u8 (bs[k] : Int)) := hrw.cell _ (u8v_get _ _ hlt)
      have hx : bs[k] < 256 := HBB.out _ (List.getElem_mem hlt)
      have hs := allBits_take_succ bs k hlt
      generalize bs[k] = x at hc hx hs
      have HS := Lib.hid hs; clear hs
      go_wp2_with fail
      refine (value_int (by omega) (by omega) (by omega) (by omega) Hr).mono ?_
      rintro e w1 ⟨r, rfl, H1⟩
      obtain ⟨ra, rc, rfl⟩ := H1.row_form
      have H2 := H1.swap
      have hrd1 := H1.rd
      have h63 : 8 * k + (8 : Int).toNat ≤ maxLen := by have : (8 : Int).toNat = 8 := rfl; unfold maxLen; omega
      have hby : (8 * k + (8 : Int).toNat) * 8 ≤ 140737488355328 := by have : (8 : Int).toNat = 8 := rfl; omega
      clear hrw hc H1
      go_wp2_with ((at_builtin; go_must (refine wpList_append_src rfl (.tmp 11) (.tmp 17) 27 rfl 3 (.int .i64 0) 1 8 Try.underlying27 info_int rfl (by decide) _ _ _ rfl H2 (.slice ra (8 : Int).toNat rc) _ _ rfl hrd1 (bitv_one _) h63 hby ?_); intro v3 w3 H3; obtain ⟨va, vc, hv3⟩ := H3.row_form; subst hv3))
      have H4 := H3.swap.tail
      go_roundw
      case rel => exact ⟨k + 1, by omega, by go_num, by
        have e1 : 8 * k + (8 : Int).toNat = 8 * (k + 1) := by have : (8 : Int).toNat = 8 := rfl; omega
        rw [HS.out, List.map_append, ← e1]
        have e2 : (x : Int).toNat = x := rfl
        rw [e2] at H4
        exact H4⟩
      case measure => simp [intOf]; omega
    · go_wp2
      go_ret
      have e : k = bs.length := by omega
      subst e
      exact ⟨_, rfl, by rw [List.take_length] at Hr; exact Hr⟩

set_option maxHeartbeats 1000000 in
theorem number_calls {v : Value} {l : List Bool} {w : World} (hl : l.length ≤ 64) (hrd : RdS w v l.length 1 (l.map bitv)) :
    Calls Try.prog 30 #[v] w fun e w' => e = .returned (.int .u64 (ofBits l : Int)) ∧ w = w' := by
  obtain ⟨a, cap, rfl⟩ := hrd.form
  have HRD := Lib.hid hrd; clear hrd
  go_enter Try.func30, Try.ntmps30
  go_wp2
  go_loop [3, 4] (fun x i => ∃ k : Nat, k ≤ l.length ∧ i = .int .i64 (k : Int) ∧ x = .int .u64 (ofBits (l.take k) : Int)) (fun _ i => l.length - (intOf i).toNat)
  case atStart => exact ⟨0, by omega, rfl, rfl⟩
  case round =>
    obtain ⟨k, hk, rfl, rfl⟩ := hrel
    by_cases hlt : k < l.length
    · obtain ⟨g, o, cap', he⟩ := HRD.out.open (by omega)
      simp only [Value.slice.injEq, true_and] at he
      obtain ⟨rfl, rfl⟩ := he
      have hc : w.cell? ⟨g, o + k, none⟩ = some (.int .i64 (bit l k : Int)) := HRD.out.cell _ (bit_get l _ hlt)
      have hb := bit_le l k
      have hs : ofBits (l.take (k + 1)) = 2 * ofBits (l.take k) + bit l k := by
        rw [List.take_succ_eq_append_getElem hlt, ofBits_snoc]
        simp [bit, List.getD, List.getElem?_eq_getElem hlt]
      have hlt2 : ofBits (l.take k) < 2 ^ 63 := Nat.lt_of_lt_of_le (ofBits_lt _) (Nat.pow_le_pow_right (by decide) (by simp; omega))
      have h63 : (2 : Nat) ^ 63 = 9223372036854775808 := by decide +kernel
      have hlt3 : ofBits (l.take k) ≤ 9223372036854775807 := by omega
      generalize ofBits (l.take k) = V at *
      generalize bit l k = B at *
      have HS := Lib.hid hs
      clear hs hlt2 h63
      go_wp2
      go_round
      case rel => exact ⟨k + 1, by omega, by go_num, by rw [HS.out]; go_num⟩
      case measure => simp [intOf]; omega
    · go_wp2
      go_ret
      have e : k = l.length := by omega
      subst e
      rw [List.take_length]
      exact ⟨rfl, rfl⟩

/-- What Open gives. -/
def OpenPost (bs : List Nat) (n : Int) (R : List HP) (r : Value) (w' : World) : Prop :=
  ((openBits bs n).1 ≠ 0 ∧ r = .tuple #[.slice none 0 0, .int .i64 ((openBits bs n).1 : Int)] ∧ Sep w' R) ∨
  ∃ v l, openBits bs n = (0, l) ∧ r = .tuple #[v, .int .i64 0] ∧ Sep w' (HP.row 3 1 v l.length (l.map bitv) :: R)

/-- A shorter slice of an owned row. -/
theorem Sep.row_take {w : World} {e : TypeId} {a : Option Addr} {n cap m : Nat} {xs : List Value} {L : List HP} (h : Sep w (HP.row e 1 (.slice a n cap) n xs :: L)) (hm : m ≤ n) (hn : n ≠ 0) : Sep w (HP.row e 1 (.slice a m cap) m (xs.take m) :: L) := by
  obtain ⟨g, cap', cur, he, h1, h2, h3, h4, h5⟩ := h.row_open hn
  simp only [Value.slice.injEq, true_and] at he
  obtain ⟨rfl, rfl⟩ := he
  refine Sep.row_shut h5 (by omega) h2 h3 ?_
  rw [← h4, List.take_take, Nat.mul_one, Nat.mul_one, Nat.min_eq_left hm]

set_option maxRecDepth 100000 in
set_option maxHeartbeats 1000000 in
theorem open_calls {v : Value} {bs : List Nat} {n : Int} {R : List HP} {w : World} (hl : bs.length ≤ 1073741824) (hb : ∀ x ∈ bs, x < 256) (hrd : Reads R v bs.length 1 (bs.map u8v)) (H : Sep w R) :
    Calls Try.prog 28 #[v, .int .i64 n] w (Gives (OpenPost bs n R)) := by
  obtain ⟨a, cap, rfl⟩ := (hrd w H).form
  by_cases h1 : n < 0 ∨ 33554432 < n
  · have e : openBits bs n = (2, []) := by unfold openBits; rw [if_pos h1]
    have HE := Lib.hid (show OpenPost bs n R (.tuple #[.slice none 0 0, .int .i64 2]) w from .inl ⟨by rw [e]; decide, by rw [e]; rfl, H⟩)
    clear e hb hrd
    rcases h1 with h1 | h1
    · go_enter Try.func28, Try.ntmps28
      go_wp2
      go_ret2
      exact ⟨_, rfl, HE.out⟩
    · have h0 : ¬ n < 0 := by omega
      go_enter Try.func28, Try.ntmps28
      go_wp2
      go_ret2
      exact ⟨_, rfl, HE.out⟩
  obtain ⟨m, rfl⟩ : ∃ m : Nat, n = m := ⟨n.toNat, by omega⟩
  have hm : m ≤ 33554432 := by omega
  have et : (m : Int).toNat = m := rfl
  by_cases h2 : bs.length < (m + 7) / 8
  · have e : openBits bs m = (4, []) := by unfold openBits; rw [if_neg h1, et, if_pos h2]
    have HE := Lib.hid (show OpenPost bs m R (.tuple #[.slice none 0 0, .int .i64 4]) w from .inl ⟨by rw [e]; decide, by rw [e]; rfl, H⟩)
    have h5 : 8 * (bs.length : Int) < (m : Int) := by omega
    clear e hb hrd et h1
    go_enter Try.func28, Try.ntmps28
    go_wp2
    go_ret2
    exact ⟨_, rfl, HE.out⟩
  by_cases h3 : (m + 7) / 8 < bs.length
  · have e : openBits bs m = (5, []) := by unfold openBits; rw [if_neg h1, et, if_neg h2, if_pos h3]
    have HE := Lib.hid (show OpenPost bs m R (.tuple #[.slice none 0 0, .int .i64 5]) w from .inl ⟨by rw [e]; decide, by rw [e]; rfl, H⟩)
    have h5 : (m : Int) + 8 ≤ 8 * (bs.length : Int) := by omega
    clear e hb hrd et h1
    go_enter Try.func28, Try.ntmps28
    go_wp2
    go_ret2
    exact ⟨_, rfl, HE.out⟩
  have hlen : bs.length = (m + 7) / 8 := by omega
  have hlo : (m : Int) ≤ 8 * (bs.length : Int) := by omega
  have hhi : 8 * (bs.length : Int) < (m : Int) + 8 := by omega
  have hiff := restZero_iff bs m hb hlen
  have e3 : ¬ restZero (allBits bs) m → openBits bs m = (3, []) := by
    intro h
    rw [hiff] at h
    unfold openBits; rw [if_neg h1, et, if_neg h2, if_neg h3, if_pos (by omega)]
  have e0 : restZero (allBits bs) m → openBits bs m = (0, (allBits bs).take m) := by
    intro h
    rw [hiff] at h
    unfold openBits; rw [if_neg h1, et, if_neg h2, if_neg h3, if_neg (by omega)]
  have E3 := Lib.hid e3
  have E0 := Lib.hid e0
  have HL := Lib.hid hlen
  have HBB := Lib.hid hb
  have HRD := Lib.hid hrd
  clear e3 e0 hiff hlen hb hrd et h1 h2 h3
  go_enter Try.func28, Try.ntmps28
  go_wp2_with fail
  refine (all_calls hl HBB.out HRD.out H).mono ?_
  rintro e w1 ⟨r, rfl, H1⟩
  obtain ⟨ra, rc, rfl⟩ := H1.row_form
  have hal := allBits_length bs
  have HAL := Lib.hid hal; clear hal
  go_wp2_with fail
  go_loop [7] (fun i => ∃ k : Nat, m ≤ k ∧ k ≤ 8 * bs.length ∧ i = .int .i64 (k : Int) ∧ Hid (∀ j, m ≤ j → j < k → bit (allBits bs) j = 0)) (fun i => 8 * bs.length - (intOf i).toNat)
  case atStart => exact ⟨m, by omega, by omega, rfl, Lib.hid (fun j a b => by omega)⟩
  case round =>
    obtain ⟨k, hk0, hk, rfl, hz⟩ := hrel
    by_cases hlt : k < 8 * bs.length
    · obtain ⟨g, cap', cur, he, hx⟩ := H1.row_open (by omega)
      clear hx
      simp only [Value.slice.injEq, true_and] at he
      obtain ⟨rfl, rfl⟩ := he
      have hc : w1.cell? ⟨g, k, none⟩ = some (.int .i64 (bit (allBits bs) k : Int)) := H1.row_cell k (bit_get _ _ (by have := HAL.out; omega))
      by_cases hbit : bit (allBits bs) k = 0
      · have ht : ((bit (allBits bs) k : Int) != 0) = false := by rw [hbit]; rfl
        have hz2 : Hid (∀ j, m ≤ j → j < k + 1 → bit (allBits bs) j = 0) := Lib.hid (fun j a b => by
          by_cases e : j = k
          · subst e; exact hbit
          · exact hz.out j a (by omega))
        clear hbit
        go_wp2
        go_round
        case rel => exact ⟨k + 1, by omega, by omega, by go_num, hz2⟩
        case measure => simp [intOf]; omega
      · have ht : ((bit (allBits bs) k : Int) != 0) = true := by rw [bne_iff_ne]; omega
        have HN := Lib.hid (show ¬ restZero (allBits bs) m from fun h => hbit (h k hk0))
        clear hbit
        go_wp2
        go_ret2
        refine ⟨_, rfl, .inl ?_⟩
        rw [E3.out HN.out]
        exact ⟨by decide, rfl, H1.tail⟩
    · have hz3 : restZero (allBits bs) m := fun j hj => by
        by_cases h : j < 8 * bs.length
        · exact hz.out j hj (by omega)
        · exact bit_out _ _ (by have := HAL.out; omega)
      have HE := Lib.hid (E0.out hz3)
      clear hz3 hz
      have hlen2 : ((allBits bs).take m).length = m := by rw [List.length_take, HAL.out]; omega
      have HLT := Lib.hid hlen2; clear hlen2
      have Hfin : ∀ (a' : Option Addr) (c' : Nat), Sep w1 (HP.row 3 1 (.slice a' m c') m (((allBits bs).take m).map bitv) :: R) → OpenPost bs m R (.tuple #[.slice a' m c', .int .i64 0]) w1   := fun a' c' h => by
        refine .inr ⟨_, _, HE.out, rfl, ?_⟩
        rw [HLT.out]; exact h
      have HFIN := Lib.hid Hfin
      clear Hfin
      by_cases hbs : bs.length = 0
      · have hm0 : m = 0 := by omega
        have Hn : Sep w1 (HP.row 3 1 (.slice none 0 0) m (((allBits bs).take m).map bitv) :: R) := by
          subst hm0; simpa using H1.tail.row_nil 3 1
        rcases H1.owns.2 with ⟨he, _⟩ | ⟨g, cap', cur, he, _, _, _⟩
        · simp only [Value.slice.injEq] at he
          obtain ⟨rfl, -, rfl⟩ := he
          subst hm0
          have hbs' : (bs.length : Int) = 0 := by omega
          go_wp2
          go_ret2
          exact ⟨_, rfl, HFIN.out _ _ Hn⟩
        · simp only [Value.slice.injEq, true_and] at he
          obtain ⟨rfl, rfl⟩ := he
          have H2 : Sep w1 (HP.row 3 1 (.slice (some ⟨g, 0, none⟩) m rc) m (((allBits bs).take m).map bitv) :: R) := by
            subst hm0
            rw [hbs] at H1
            simpa [allBits, List.eq_nil_of_length_eq_zero hbs] using H1
          have hcap : 8 * bs.length ≤ rc := by omega
          clear hbs hm0
          go_wp2
          go_ret2
          exact ⟨_, rfl, HFIN.out _ _ H2⟩
      · have H2 := H1.row_take (m := m) (by omega) (by omega)
        rw [← List.map_take] at H2
        have HH2 := Lib.hid (HFIN.out _ _ H2)
        clear H2
        obtain ⟨g, cap', cur, he, hx⟩ := H1.row_open (by omega)
        have hcap : 8 * bs.length ≤ cap' := hx.1
        clear hx
        simp only [Value.slice.injEq, true_and] at he
        obtain ⟨rfl, rfl⟩ := he
        go_wp2
        go_ret2
        exact ⟨_, rfl, HH2.out⟩

end Go.Proofs.Ytoejgfbeemokcaa
