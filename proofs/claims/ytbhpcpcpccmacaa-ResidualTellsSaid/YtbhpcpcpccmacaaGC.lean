/- XRef1 XRef1b XRef1c XFrame XNr XRef1d XGet Bits as a text of 0 and 1: plain. -/
import Derived.Test.YtbhpcpcpccmacaaGB
import Derived.Test.YtbhpcpcpccmacaaGA
import Derived.OpenShut

namespace Go.Proofs.Ytbhpcpcpccmacaa
open Go.RowKit

/-- A bit as an int. -/
def bitv (x : Bool) : Value := .int .i64 (x.toNat : Int)
theorem info_int : (Try.prog.info? 3).map (fun i => (i.zero, i.size, i.bytes)) = some (some (.int .i64 0), 1, 8) := by kernel_rfl
theorem bitv_one (l : List Bool) : ∀ u ∈ l.map bitv, u.oneCell' = true := by
  intro u hu; simp [bitv] at hu; rcases hu with ⟨_, rfl⟩ | ⟨_, rfl⟩ <;> rfl

theorem ret_bool {a b : Bool} (h : a = b) : Ending.returned (.bool a) = .returned (.bool b) := by rw [h]
theorem ret_i64 {a b : Int} (h : a = b) : Ending.returned (.int .i64 a) = .returned (.int .i64 b) := by rw [h]

theorem div_two (v k : Nat) : ((v : Int) / 2 ^ k) / 2 = (v : Int) / 2 ^ (k + 1) := by
  rw [Int.ediv_ediv_of_nonneg (by exact Int.pow_nonneg (by decide)), Int.pow_succ]

/-! ## Value -/

theorem value_step (v n k : Nat) (h : k < n) : (valBits v n).drop k = v.testBit (n - (k + 1)) :: (valBits v n).drop (k + 1) := by
  have hlt : k < (valBits v n).length := by rw [valBits_length]; omega
  rw [List.drop_eq_getElem_cons hlt]
  congr 1
  simp only [valBits, List.getElem_map, List.getElem_range]
  congr 1; omega

theorem set_replicate (k : Nat) (z u : Value) (L : List Value) : (List.replicate (k + 1) z ++ L).set k u = List.replicate k z ++ u :: L := by
  rw [List.replicate_succ', List.append_assoc, List.set_append_right _ _ (by simp)]
  simp

set_option maxHeartbeats 1000000 in
theorem value_calls {v n : Nat} (hv : v < 2 ^ 64) (hn : n ≤ 64) {R : List HP} {w : World} (H : Sep w R) :
    Calls Try.prog 52 #[.int .u64 (v : Int), .int .i64 (n : Int)] w (Gives fun r w' => Sep w' (HP.row 3 1 r n ((valBits v n).map bitv) :: R)) := by
  have HV := Lib.hid hv; clear hv
  have hby : 8 * n ≤ 281474976710656 := by omega
  have hmx : n ≤ maxLen := by unfold maxLen; omega
  go_enter Try.func52, Try.ntmps52
  go_wp2_with ((at_make; go_must (refine wpList_make_sep rfl _ _ 40 rfl 3 (.int .i64 0) 8 Try.underlying40 info_int rfl H .i64 .i64 (n : Int) (n : Int) n rfl rfl rfl rfl hby hmx ?_); intro g w1 H1))
  go_loopw [0, 6] (fun x i wr => ∃ k : Nat, k ≤ n ∧ i = .int .i64 ((k : Int) - 1) ∧ x = .int .u64 ((v / 2 ^ (n - k) : Nat) : Int) ∧ Sep wr (HP.row 3 1 (.slice (some ⟨g, 0, none⟩) n n) n (List.replicate k (.int .i64 0) ++ ((valBits v n).drop k).map bitv) :: R)) (fun _ i _ => (intOf i + 1).toNat)
  case atStart => exact ⟨n, by omega, rfl, by simp, by simpa [List.drop_of_length_le, valBits_length] using H1⟩
  case round =>
    clear H1
    obtain ⟨k, hk, rfl, rfl, Hr⟩ := hrel
    by_cases hk0 : k = 0
    · subst hk0
      go_wp2
      go_ret
      exact ⟨_, rfl, by simpa using Hr⟩
    · obtain ⟨j, rfl⟩ : ∃ j, k = j + 1 := ⟨k - 1, by omega⟩
      have hb : v / 2 ^ (n - (j + 1)) ≤ 18446744073709551615 := by
        have h64 : (2 : Nat) ^ 64 = 18446744073709551616 := by decide +kernel
        have := Nat.div_le_self v (2 ^ (n - (j + 1))); have := HV.out; omega
      have hx : ((v / 2 ^ (n - (j + 1)) : Nat) : Int) % 2 = ((v.testBit (n - (j + 1))).toNat : Int) := by
        have := testBit_int v (n - (j + 1)); simpa using this
      have hnext : ((v / 2 ^ (n - (j + 1)) : Nat) : Int) / 2 = ((v / 2 ^ (n - j) : Nat) : Int) := by
        have e : n - j = n - (j + 1) + 1 := by omega
        rw [e, Nat.pow_succ, ← Nat.div_div_eq_div_mul]; first | rfl | done
      have hd := value_step v n j (by omega)
      have hset := set_replicate j (.int .i64 0) (bitv (v.testBit (n - (j + 1)))) (((valBits v n).drop (j + 1)).map bitv)
      have hc : wr.cell? ⟨g, j, none⟩ = some (.int .i64 0) := Hr.row_cell j (by rw [List.getElem?_append_left (by simp)]; simp)
      have hf := Hr.row_froz j
      have hrow := Hr.row_set j (bitv (v.testBit (n - (j + 1))))
      rw [hset] at hrow
      generalize v / 2 ^ (n - (j + 1)) = x at hb hx hnext ⊢
      generalize v.testBit (n - (j + 1)) = y at *
      have HN := Lib.hid hnext
      have HD := Lib.hid hd
      have hj : j < n := by omega
      have hj2 : n ≤ 64 := hn
      clear hnext hd hset hk0
      have hjj : ((j + 1 : Nat) : Int) - 1 = (j : Int) := by omega
      rw [hjj]
      clear hjj
      have hy : 0 ≤ (y.toNat : Int) ∧ (y.toNat : Int) ≤ 1 := by have := Bool.toNat_le y; omega
      go_wp2
      go_roundw
      case rel => exact ⟨j, by omega, rfl, by rw [HN.out], by rw [HD.out]; exact hrow⟩
      case measure => simp [intOf]

end Go.Proofs.Ytbhpcpcpccmacaa

namespace Go.Proofs.Ytbhpcpcpccmacaa
open Go.RowKit

/-- The first bits of a byte, as the reference adds them up. -/
def partB (l : List Bool) (i : Nat) : Nat → Nat
  | 0 => 0
  | j + 1 => 2 * partB l i j + bit l (i + j)
theorem partB_lt (l : List Bool) (i j : Nat) : partB l i j < 2 ^ j := by
  induction j with
  | zero => simp [partB]
  | succ j ih => rw [partB, Nat.pow_succ]; have := bit_le l (i + j); omega
theorem partB_byte (l : List Bool) (k : Nat) : partB l (8 * k) 8 = byteAt l k := by
  simp only [partB, byteAt, Nat.add_zero]; omega

theorem bit_get (l : List Bool) (i : Nat) (h : i < l.length) : (l.map bitv)[i]? = some (.int .i64 (bit l i : Int)) := by
  simp [bitv, bit, List.getD, List.getElem?_eq_getElem h]

set_option maxHeartbeats 1000000 in
theorem rbytes_calls {v : Value} {l : List Bool} {R : List HP} {w : World} (hl : l.length ≤ 1099511627776) (hrd : Reads R v l.length 1 (l.map bitv)) (H : Sep w R) :
    Calls Try.prog 54 #[v] w (Gives fun r w' => Sep w' (HP.row 5 1 r (pk l).length ((pk l).map u8v) :: R)) := by
  obtain ⟨a, cap, rfl⟩ := (hrd w H).form
  go_enter Try.func54, Try.ntmps54
  go_wp2
  go_loopw [3, 4] (fun o i wr => ∃ k : Nat, 8 * k < l.length + 8 ∧ i = .int .i64 (8 * (k : Int)) ∧ Sep wr (HP.row 5 1 o k ((pkN l k).map u8v) :: R)) (fun _ i _ => l.length + 8 - (intOf i).toNat)
  case atStart => exact ⟨0, by omega, rfl, by simpa [pkN] using H.row_nil _ _⟩
  case round =>
    obtain ⟨k, hk, rfl, Hr⟩ := hrel
    by_cases hlt : 8 * k < l.length
    · obtain ⟨oa, oc, rfl⟩ := Hr.row_form
      have hrw := hrd wr Hr.tail
      go_wp2
      go_loop [5, 6] (fun x j => ∃ q : Nat, q ≤ 8 ∧ j = .int .i64 q ∧ x = .int .i64 (partB l (8 * k) q : Int)) (fun _ j => 8 - (intOf j).toNat)
      case atStart => exact ⟨0, by omega, rfl, rfl⟩
      case round =>
        obtain ⟨q, hq, rfl, rfl⟩ := hrel
        by_cases hq8 : q < 8
        · have hp := partB_lt l (8 * k) q
          have hp2 : 2 ^ q ≤ 2 ^ 8 := Nat.pow_le_pow_right (by decide) hq
          have hpq : partB l (8 * k) q < 256 := by omega
          have hs : partB l (8 * k) (q + 1) = 2 * partB l (8 * k) q + bit l (8 * k + q) := rfl
          have hb := bit_le l (8 * k + q)
          generalize hV : partB l (8 * k) q = V at *
          have HS := Lib.hid hs
          clear hs hp hp2 hV
          by_cases hin : 8 * k + q < l.length
          · obtain ⟨g, o, cap', he⟩ := hrw.open (by omega)
            simp only [Value.slice.injEq, true_and] at he
            obtain ⟨rfl, rfl⟩ := he
            have hc : wr.cell? ⟨g, o + (8 * k + q), none⟩ = some (.int .i64 (bit l (8 * k + q) : Int)) := hrw.cell _ (bit_get l _ hin)
            generalize bit l (8 * k + q) = B at *
            go_wp2
            go_round
            case rel => exact ⟨q + 1, by omega, by go_num, by rw [HS.out]; go_num⟩
            case measure => simp [intOf]; omega
          · have hB : bit l (8 * k + q) = 0 := bit_out _ _ (by omega)
            have HB := Lib.hid hB
            clear hB
            go_wp2
            go_round
            case rel => exact ⟨q + 1, by omega, by go_num, by rw [HS.out, HB.out]; go_num⟩
            case measure => simp [intOf]; omega
        · have hq9 : q = 8 := by omega
          subst hq9
          rw [partB_byte]
          have hb := byteAt_lt l k
          have hmod : (byteAt l k : Int) % 256 = (byteAt l k : Int) := by omega
          have h63 : k + 1 ≤ maxLen := by unfold maxLen; omega
          have hby : (k + 1) * 1 ≤ 140737488355328 := by omega
          go_wp2_with ((at_builtin; go_must (refine wpList_append_one rfl (.tmp 33) (.tmp 36) 33 rfl 5 (.int .u8 0) 1 Try.underlying33 info_u8 rfl _ _ _ (u8v (byteAt l k)) rfl rfl Hr rfl h63 hby ?_); intro g2 cap2 w2 H2))
          go_roundw
          case rel => exact ⟨k + 1, by omega, by go_num, by rw [pkN_succ]; simpa using H2⟩
          case measure => simp [intOf]; omega
    · go_wp2
      go_ret
      have e : k = (pk l).length := by rw [pk_length]; omega
      subst e
      exact ⟨_, rfl, by simpa [pk, pkN_length] using Hr⟩

end Go.Proofs.Ytbhpcpcpccmacaa

namespace Go.Proofs.Ytbhpcpcpccmacaa
open Go.RowKit

theorem u8v_get (l : List Nat) (i : Nat) (h : i < l.length) : (l.map u8v)[i]? = some (.int .u8 (l[i] : Int)) := by
  simp [u8v, List.getElem?_eq_getElem h]

theorem take_succ_eq {xs ys : List Nat} {k : Nat} (h1 : k < xs.length) (h2 : k < ys.length) (h : xs.take k = ys.take k) (e : xs[k] = ys[k]) : xs.take (k + 1) = ys.take (k + 1) := by
  rw [List.take_succ_eq_append_getElem h1, List.take_succ_eq_append_getElem h2, h, e]

end Go.Proofs.Ytbhpcpcpccmacaa

namespace Go.Proofs.Ytbhpcpcpccmacaa
open Go.RowKit

/-- Bytes that came in. -/
theorem IsRow.bytes {w : World} {a : Option Addr} {len cap : Nat} {zs : List Int} (h : IsRow .u8 w a len cap zs) : ∃ xs : List Nat, xs.length = len ∧ (∀ x ∈ xs, x < 256) ∧ RdS w (.slice a len cap) len 1 (xs.map u8v) := by
  have hr := h.rd
  have hw := h.wf
  have hl := h.len
  refine ⟨(zs.take len).map Int.toNat, by simpa using hl, ?_, ?_⟩
  · intro x hx
    simp only [List.mem_map] at hx
    obtain ⟨n, hn, rfl⟩ := hx
    have := wf_u8 (hw n hn); omega
  · have e : (zs.take len).map (Value.int .u8) = ((zs.take len).map Int.toNat).map u8v := by
      rw [List.map_map]
      apply List.map_congr_left
      intro n hn
      have := wf_u8 (hw n hn)
      simp [u8v, Int.toNat_of_nonneg this.1]
    rw [← e]; exact hr

#print axioms IsRow.bytes
end Go.Proofs.Ytbhpcpcpccmacaa

namespace Go.Proofs.Ytbhpcpcpccmacaa
open Go.RowKit

/-- What NewReader gives. -/
def NrPost (bs : List Nat) (n : Int) (R : List HP) (r : Value) (w' : World) : Prop :=
  ((openBits bs n).1 ≠ 0 ∧ r = .tuple #[.pointer none, .int .i64 ((openBits bs n).1 : Int)] ∧ Sep w' R) ∨
  ∃ b l, openBits bs n = (0, l) ∧ r = .tuple #[.pointer (some ⟨b, 0, none⟩), .int .i64 0] ∧ Sep w' (Rdr b l 0 :: R)

theorem nr_all {v : Value} {bs : List Nat} {n : Int} {R : List HP} {w : World} (hb : ∀ x ∈ bs, x < 256) (hrd : RdS w v bs.length 1 (bs.map u8v)) (H : Sep w R) :
    Calls Try.prog 89 #[v, .int .i64 n] w (Gives (NrPost bs n R)) := by
  by_cases h1 : n < 0 ∨ 33554432 < n
  · have e : openBits bs n = (2, []) := by unfold openBits; rw [if_pos h1]
    refine (nr_range v n h1).mono ?_
    rintro _ _ ⟨rfl, rfl⟩
    exact ⟨_, rfl, .inl ⟨by rw [e]; decide, by rw [e]; rfl, H⟩⟩
  obtain ⟨m, rfl⟩ : ∃ m : Nat, n = m := ⟨n.toNat, by omega⟩
  have hm : m ≤ 33554432 := by omega
  obtain ⟨a, cap, rfl⟩ := hrd.form
  have et : (m : Int).toNat = m := rfl
  by_cases h2 : bs.length < (m + 7) / 8
  · have e : openBits bs m = (4, []) := by unfold openBits; rw [if_neg h1, et, if_pos h2]
    refine (nr_end a cap bs.length m hm h2).mono ?_
    rintro _ _ ⟨rfl, rfl⟩
    exact ⟨_, rfl, .inl ⟨by rw [e]; decide, by rw [e]; rfl, H⟩⟩
  by_cases h3 : (m + 7) / 8 < bs.length
  · have e : openBits bs m = (5, []) := by unfold openBits; rw [if_neg h1, et, if_neg h2, if_pos h3]
    refine (nr_more a cap bs.length m hm h3).mono ?_
    rintro _ _ ⟨rfl, rfl⟩
    exact ⟨_, rfl, .inl ⟨by rw [e]; decide, by rw [e]; rfl, H⟩⟩
  have hlen : bs.length = (m + 7) / 8 := by omega
  by_cases h4 : m % 8 ≠ 0 ∧ bs.getD (m / 8) 0 * 2 ^ (m % 8) % 256 ≠ 0
  · have e : openBits bs m = (3, []) := by unfold openBits; rw [if_neg h1, et, if_neg h2, if_neg h3, if_pos h4]
    have hne : bs.length ≠ 0 := by omega
    obtain ⟨g, o, cap, he⟩ := hrd.open hne
    simp only [Value.slice.injEq, true_and] at he
    obtain ⟨rfl, rfl⟩ := he
    have hj : m / 8 < bs.length := by omega
    have hc := hrd.cell (bs.length - 1) (u := .int .u8 (bs.getD (m / 8) 0 : Int)) (by
      have e : bs.length - 1 = m / 8 := by omega
      rw [e]
      simp [u8v, List.getD, List.getElem?_eq_getElem hj])
    refine (nr_form ⟨g, o, none⟩ _ bs.length m (bs.getD (m / 8) 0) hm hlen h4.1 g o rfl hc ?_).mono ?_
    · rw [bne_iff_ne]
      have e : ((bs.getD (m / 8) 0 : Int) * 2 ^ (m % 8) % 256) = ((bs.getD (m / 8) 0 * 2 ^ (m % 8) % 256 : Nat) : Int) := by rw [Int.natCast_emod, Int.natCast_mul, Int.natCast_pow]; rfl
      rw [e]
      intro h0
      exact h4.2 (by exact_mod_cast h0)
    · rintro _ _ ⟨rfl, rfl⟩
      exact ⟨_, rfl, .inl ⟨by rw [e]; decide, by rw [e]; rfl, H⟩⟩
  · have e : openBits bs m = (0, (allBits bs).take m) := by unfold openBits; rw [if_neg h1, et, if_neg h2, if_neg h3, if_neg h4]
    obtain ⟨_, _, k3, k4, _, _, _⟩ := openBits_ok hb e
    generalize hl : (allBits bs).take m = l at *
    have hml : m = l.length := by omega
    subst k4
    have h := nr_ok (l := l) (by omega) hrd H
    rw [k3] at h
    refine h.mono ?_
    rintro _ _ ⟨v, rfl, b, rfl, H'⟩
    exact ⟨_, rfl, .inr ⟨b, l, e, rfl, H'⟩⟩

end Go.Proofs.Ytbhpcpcpccmacaa

namespace Go.Proofs.Ytbhpcpcpccmacaa
open Go.RowKit

/-- Value, of whole numbers. -/
theorem value_int {v n : Int} (hv0 : 0 ≤ v) (hv : v ≤ 18446744073709551615) (hn0 : 0 ≤ n) (hn : n ≤ 64) {R : List HP} {w : World} (H : Sep w R) :
    Calls Try.prog 52 #[.int .u64 v, .int .i64 n] w (Gives fun r w' => Sep w' (HP.row 3 1 r n.toNat ((valBits v.toNat n.toNat).map bitv) :: R)) := by
  have h64 : (2 : Nat) ^ 64 = 18446744073709551616 := by decide +kernel
  have h := value_calls (v := v.toNat) (n := n.toNat) (by omega) (by omega) H
  rw [Int.toNat_of_nonneg hv0, Int.toNat_of_nonneg hn0] at h
  exact h

theorem allBits_take_succ (bs : List Nat) (k : Nat) (h : k < bs.length) : allBits (bs.take (k + 1)) = allBits (bs.take k) ++ valBits bs[k] 8 := by
  rw [List.take_succ_eq_append_getElem h, allBits_append]
  simp [allBits]

set_option maxRecDepth 100000 in
set_option maxHeartbeats 1000000 in
theorem all_calls {v : Value} {bs : List Nat} {R : List HP} {w : World} (hl : bs.length ≤ 1073741824) (hb : ∀ x ∈ bs, x < 256) (hrd : Reads R v bs.length 1 (bs.map u8v)) (H : Sep w R) :
    Calls Try.prog 68 #[v] w (Gives fun r w' => Sep w' (HP.row 3 1 r (8 * bs.length) ((allBits bs).map bitv) :: R)) := by
  obtain ⟨a, cap, rfl⟩ := (hrd w H).form
  have HRD := Lib.hid hrd; clear hrd
  have HBB := Lib.hid hb; clear hb
  go_enter Try.func68, Try.ntmps68
  go_wp2
  go_loopw [3, 4] (fun o i wr => ∃ k : Nat, k ≤ bs.length ∧ i = .int .i64 (k : Int) ∧ Sep wr (HP.row 3 1 o (8 * k) ((allBits (bs.take k)).map bitv) :: R)) (fun _ i _ => bs.length - (intOf i).toNat)
  case atStart => exact ⟨0, by omega, rfl, by simpa [allBits] using H.row_nil _ _⟩
  case round =>
    obtain ⟨k, hk, rfl, Hr⟩ := hrel
    by_cases hlt : k < bs.length
    · obtain ⟨oa, oc, rfl⟩ := Hr.row_form
      have hrw := HRD.out wr Hr.tail
      obtain ⟨g, o, cap', he⟩ := hrw.open (by omega)
      simp only [Value.slice.injEq, true_and] at he
      obtain ⟨rfl, rfl⟩ := he
      have hc : wr.cell? ⟨g, o + k, none⟩ = some (.int .u8 (bs[k] : Int)) := hrw.cell _ (u8v_get _ _ hlt)
      have hx : bs[k] < 256 := HBB.out _ (List.getElem_mem hlt)
      have hs := allBits_take_succ bs k hlt
      generalize bs[k] = x at hc hx hs
      have HS := Lib.hid hs; clear hs
      go_wp2_with fail
      refine (value_int (by omega) (by omega) (by omega) (by omega) Hr).mono ?_
      rintro e w1 ⟨r, rfl, H1⟩
      obtain ⟨ra, rc, rfl⟩ := H1.row_form
      have H2 := H1.swap
      have hrd1 := H1.rd
      have h63 : 8 * k + (8 : Int).toNat ≤ maxLen := by have : (8 : Int).toNat = 8 := rfl; unfold maxLen; omega
      have hby : (8 * k + (8 : Int).toNat) * 8 ≤ 140737488355328 := by have : (8 : Int).toNat = 8 := rfl; omega
      clear hrw hc H1
      go_wp2_with ((at_builtin; go_must (refine wpList_append_src rfl (.tmp 11) (.tmp 17) 40 rfl 3 (.int .i64 0) 1 8 Try.underlying40 info_int rfl (by decide) _ _ _ rfl H2 (.slice ra (8 : Int).toNat rc) _ _ rfl hrd1 (bitv_one _) h63 hby ?_); intro v3 w3 H3; obtain ⟨va, vc, hv3⟩ := H3.row_form; subst hv3))
      have H4 := H3.swap.tail
      go_roundw
      case rel => exact ⟨k + 1, by omega, by go_num, by
        have e1 : 8 * k + (8 : Int).toNat = 8 * (k + 1) := by have : (8 : Int).toNat = 8 := rfl; omega
        rw [HS.out, List.map_append, ← e1]
        have e2 : (x : Int).toNat = x := rfl
        rw [e2] at H4
        exact H4⟩
      case measure => simp [intOf]; omega
    · go_wp2
      go_ret
      have e : k = bs.length := by omega
      subst e
      exact ⟨_, rfl, by rw [List.take_length] at Hr; exact Hr⟩

/-- What Open gives. -/
def OpenPost (bs : List Nat) (n : Int) (R : List HP) (r : Value) (w' : World) : Prop :=
  ((openBits bs n).1 ≠ 0 ∧ r = .tuple #[.slice none 0 0, .int .i64 ((openBits bs n).1 : Int)] ∧ Sep w' R) ∨
  ∃ v l, openBits bs n = (0, l) ∧ r = .tuple #[v, .int .i64 0] ∧ Sep w' (HP.row 3 1 v l.length (l.map bitv) :: R)

/-- A shorter slice of an owned row. -/
theorem Sep.row_take {w : World} {e : TypeId} {a : Option Addr} {n cap m : Nat} {xs : List Value} {L : List HP} (h : Sep w (HP.row e 1 (.slice a n cap) n xs :: L)) (hm : m ≤ n) (hn : n ≠ 0) : Sep w (HP.row e 1 (.slice a m cap) m (xs.take m) :: L) := by
  obtain ⟨g, cap', cur, he, h1, h2, h3, h4, h5⟩ := h.row_open hn
  simp only [Value.slice.injEq, true_and] at he
  obtain ⟨rfl, rfl⟩ := he
  refine Sep.row_shut h5 (by omega) h2 h3 ?_
  rw [← h4, List.take_take, Nat.mul_one, Nat.mul_one, Nat.min_eq_left hm]

end Go.Proofs.Ytbhpcpcpccmacaa

namespace Go.Proofs.Ytbhpcpcpccmacaa
open Go.RowKit

/-- What Get gives, of whatever width. -/
def getOf (l : List Bool) (i : Nat) (n : Int) : Nat × Nat × Nat :=
  if n < 0 ∨ 64 < n then (0, 2, i) else if (l.length : Int) - i < n then (0, 4, i) else (ofBits ((l.drop i).take n.toNat), 0, i + n.toNat)

theorem get_all {n : Int} {b i : Nat} {l : List Bool} {R : List HP} {w : World} (hi : i ≤ l.length) (hl : l.length ≤ 33554432) (H : Sep w (Rdr b l i :: R)) :
    Calls Try.prog 77 #[.pointer (some ⟨b, 0, none⟩), .int .i64 n] w fun e w' => e = .returned (.tuple #[.int .u64 ((getOf l i n).1 : Int), .int .i64 ((getOf l i n).2.1 : Int)]) ∧ Sep w' (Rdr b l (getOf l i n).2.2 :: R) := by
  unfold getOf
  by_cases h1 : n < 0 ∨ 64 < n
  · rw [if_pos h1]
    refine (get_range n h1 b).mono ?_
    rintro _ _ ⟨rfl, rfl⟩
    exact ⟨rfl, H⟩
  rw [if_neg h1]
  by_cases h2 : (l.length : Int) - i < n
  · rw [if_pos h2]
    refine (get_end_int (by omega) (by omega) hi hl (by omega) H).mono ?_
    rintro _ _ ⟨rfl, k, rfl⟩
    exact ⟨rfl, H.drewN k⟩
  rw [if_neg h2]
  refine (get_int (by omega) (by omega) (by omega) hl H).mono ?_
  rintro _ _ ⟨rfl, H'⟩
  exact ⟨rfl, H'⟩

theorem getOf_le (l : List Bool) (i : Nat) (n : Int) (hi : i ≤ l.length) : (getOf l i n).2.2 ≤ l.length := by
  unfold getOf
  split
  · exact hi
  · split
    · exact hi
    · simp only; omega

/-- A piece of a readable slice. -/
theorem RdS.sub {w : World} {g o n cap i m c : Nat} {xs : List Value} (h : RdS w (.slice (some ⟨g, o, none⟩) n cap) n 1 xs) (hm : i + m ≤ n) : RdS w (.slice (some ⟨g, o + i, none⟩) m c) m 1 ((xs.drop i).take m) := by
  refine ⟨by rw [List.length_take, List.length_drop, h.1]; omega, .inr ⟨_, _, rfl, fun j u hu => ?_⟩⟩
  rw [List.getElem?_take] at hu
  split at hu
  · rw [List.getElem?_drop] at hu
    have := h.cell (i + j) hu
    rw [addr_add, Nat.add_assoc]; exact this
  · cases hu

theorem Sep.row_cap {w : World} {e : TypeId} {size : Nat} {a : Option Addr} {n cap : Nat} {xs : List Value} {L : List HP} (h : Sep w (HP.row e size (.slice a n cap) n xs :: L)) : n ≤ cap := by
  rcases h.owns.2 with ⟨h1, h0⟩ | ⟨g, cap', cur, h1, _, _, h4, _⟩
  · omega
  · simp only [Value.slice.injEq] at h1; omega

theorem addr_add_add (ad : Addr) (i j : Nat) : (ad.add i).add j = ad.add (i + j) := by
  obtain ⟨b, o, s⟩ := ad
  unfold Addr.add
  by_cases hi : i = 0
  · subst hi; simp
  · by_cases hj : j = 0
    · subst hj; simp [hi]
    · simp [hi, hj, Nat.add_assoc]

/-- A piece of a readable slice, as the walk writes it: where room is left behind its beginning. -/
theorem RdS.piece {w : World} {ra : Option Addr} {n rc t m : Nat} {xs : List Value} (h : RdS w (.slice ra n rc) n 1 xs) (hm : t + m ≤ n) (hrc : t < rc) : RdS w (.slice (ra.map fun x => x.add t) m (rc - t)) m 1 ((xs.drop t).take m) := by
  have hl : ((xs.drop t).take m).length = m * 1 := by rw [List.length_take, List.length_drop, h.1]; omega
  refine ⟨hl, ?_⟩
  rcases h.2 with ⟨he, h0⟩ | ⟨ad, cap, he, hh⟩
  · simp only [Value.slice.injEq] at he
    omega
  · simp only [Value.slice.injEq] at he
    obtain ⟨rfl, -, rfl⟩ := he
    refine .inr ⟨ad.add t, rc - t, rfl, fun j u hu => ?_⟩
    rw [List.getElem?_take] at hu
    split at hu
    · rw [List.getElem?_drop] at hu
      rw [addr_add_add]; exact hh _ _ hu
    · cases hu
/-- .. where none is left, and so nothing in it. -/
theorem RdS.piece0 {w : World} {ra : Option Addr} {n rc : Nat} {xs : List Value} (h : RdS w (.slice ra n rc) n 1 xs) : RdS w (.slice ra 0 0) 0 1 [] := by
  refine ⟨rfl, ?_⟩
  rcases h.2 with ⟨he, h0⟩ | ⟨ad, cap, he, hh⟩
  · simp only [Value.slice.injEq] at he
    obtain ⟨rfl, -⟩ := he
    exact .inl ⟨rfl, rfl⟩
  · simp only [Value.slice.injEq] at he
    obtain ⟨rfl, -⟩ := he
    exact .inr ⟨ad, 0, rfl, fun j u hu => by simp at hu⟩

end Go.Proofs.Ytbhpcpcpccmacaa

namespace Go.Proofs.Ytbhpcpcpccmacaa

def chr (x : Bool) : UInt8 := if x then 49 else 48
def bitStr (l : List Bool) : ByteArray := ⟨(l.map chr).toArray⟩

theorem bitStr_size (l : List Bool) : (bitStr l).size = l.length := by simp [bitStr, ByteArray.size]
theorem ba_ext {a b : ByteArray} (h : a.data.toList = b.data.toList) : a = b := by
  cases a with | mk x => cases b with | mk y =>
  have h' : x.toList = y.toList := h
  rw [Array.toList_inj.1 h']
theorem ba_append (a b : ByteArray) : (a ++ b).data.toList = a.data.toList ++ b.data.toList := by simp
theorem bitStr_append (a b : List Bool) : bitStr a ++ bitStr b = bitStr (a ++ b) := by
  apply ba_ext
  rw [ba_append]
  simp [bitStr]
theorem bitStr_true (l : List Bool) : (⟨#[49]⟩ : ByteArray) ++ bitStr l = bitStr (true :: l) := bitStr_append [true] l
theorem bitStr_false (l : List Bool) : (⟨#[48]⟩ : ByteArray) ++ bitStr l = bitStr (false :: l) := bitStr_append [false] l
theorem bitStr_nil : (⟨#[]⟩ : ByteArray) = bitStr [] := rfl

theorem chr_inj {x y : Bool} (h : chr x = chr y) : x = y := by
  cases x <;> cases y <;> first | rfl | exact absurd h (by decide)
theorem map_chr_inj : ∀ {a b : List Bool}, a.map chr = b.map chr → a = b
  | [], [], _ => rfl
  | [], _ :: _, h => by simp at h
  | _ :: _, [], h => by simp at h
  | x :: a, y :: b, h => by
    simp only [List.map_cons, List.cons.injEq] at h
    rw [chr_inj h.1, map_chr_inj h.2]
theorem bitStr_inj {a b : List Bool} (h : bitStr a = bitStr b) : a = b := by
  apply map_chr_inj
  have : (bitStr a).data.toList = (bitStr b).data.toList := by rw [h]
  simpa [bitStr] using this

theorem valBits_cons (v k : Nat) : valBits v (k + 1) = v.testBit k :: valBits v k := by
  unfold valBits
  rw [List.range_succ_eq_map]
  simp only [List.map_cons, List.map_map]
  congr 1
  refine List.map_congr_left fun i _ => ?_
  simp only [Function.comp]
  congr 1; omega

theorem all_pk (l : List Bool) : (allBits (pk l)).take l.length = l := by
  have hlen : ((allBits (pk l)).take l.length).length = l.length := by rw [List.length_take, allBits_length, pk_length]; omega
  apply List.ext_getElem
  · exact hlen
  intro i h1 h2
  have hi : i / 8 < (pk l).length := by rw [pk_length]; omega
  have e : i = 8 * (i / 8) + i % 8 := by omega
  have hg := allBits_get (pk l) (i / 8) (i % 8) (by omega) hi
  rw [← e] at hg
  have hp : (pk l)[i / 8] = byteAt l (i / 8) := by
    have := pkN_getElem? l ((l.length + 7) / 8) (i / 8) (by omega)
    unfold pk at hi ⊢
    rw [List.getElem?_eq_getElem (by rw [pkN_length]; omega)] at this
    exact Option.some.inj this
  have hl : i < (allBits (pk l)).length := by rw [allBits_length, pk_length]; omega
  rw [List.getD, List.getElem?_eq_getElem hl, Option.getD_some, hp] at hg
  rw [List.getElem_take, hg]
  have hb := byteAt_bit l i
  rw [Nat.testBit_eq_decide_div_mod_eq, hb]
  unfold bit
  rw [List.getD, List.getElem?_eq_getElem h2, Option.getD_some]
  cases l[i] <;> rfl

end Go.Proofs.Ytbhpcpcpccmacaa
