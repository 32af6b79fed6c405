/- Results that lie in cells. Digits and intervals: plain. coder: carry, come. coder: come. coder: part, New, Encode. -/
import Derived.Test.YtbhpcpcpccmacaaGA
import Derived.Laws.ResultCell
import Derived.Laws.Rows
import Derived.Test.YtbhpcpcpccmacaaGF
import Derived.Shelf.RegionOpen
import Derived.Deep.RegionLaw

namespace Go.Proofs.Ytbhpcpcpccmacaa
open Go.RowKit

theorem loadVar_plain {P : Program} {w : World} {ty : TypeId} {d : TypeDesc} {a : Addr} {v : Value} (hu : P.underlying ty = some d) (hd : (match d with | .struct _ | .array _ _ => true | _ => false) = false) (hc : w.cell? a = some v) : (loadVar ty a).run P w = .ok v w := by
  cases d <;> first | (cases hd; done) | simp [loadVar, isAgg, run_underlying hu, go_sem, hc, Result.andThen]
theorem results_cell1 {P : Program} {w : World} {fn : Func} {p : Tmp} {ty : TypeId} {a : Addr} {v : Value} {tmps : Array Value} (h : fn.results = #[.cell p ty]) (hp : tmps.getD p undef = .pointer (some a)) (hl : (loadVar ty a).run P w = .ok v w) :
    (results fn tmps).run P w = .ok v w := by
  have hp' : tmps[p]?.getD undef = .pointer (some a) := by simpa using hp
  simp [results, h, hp', asAddr, hl]
theorem results_cell1_tmp {P : Program} {w : World} {fn : Func} {p u : Tmp} {ty : TypeId} {a : Addr} {v : Value} {tmps : Array Value} (h : fn.results = #[.cell p ty, .tmp u]) (hp : tmps.getD p undef = .pointer (some a)) (hl : (loadVar ty a).run P w = .ok v w) :
    (results fn tmps).run P w = .ok (.tuple #[v, tmps.getD u undef]) w := by
  have hp' : tmps[p]?.getD undef = .pointer (some a) := by simpa using hp
  simp [results, h, hp', asAddr, hl, Result.andThen]
theorem results_cell2 {P : Program} {w : World} {fn : Func} {p q : Tmp} {ty tz : TypeId} {a b : Addr} {v u : Value} {tmps : Array Value} (h : fn.results = #[.cell p ty, .cell q tz]) (hp : tmps.getD p undef = .pointer (some a)) (hl : (loadVar ty a).run P w = .ok v w)
    (hq : tmps.getD q undef = .pointer (some b)) (hm : (loadVar tz b).run P w = .ok u w) :
    (results fn tmps).run P w = .ok (.tuple #[v, u]) w := by
  have hp' : tmps[p]?.getD undef = .pointer (some a) := by simpa using hp
  have hq' : tmps[q]?.getD undef = .pointer (some b) := by simpa using hq
  simp [results, h, hp', hq', asAddr, hl, hm, Result.andThen]

end Go.Proofs.Ytbhpcpcpccmacaa

namespace Go.Proofs.Ytbhpcpcpccmacaa

/-- The digits of a number, base 256, the highest first. -/
def digs : Nat → Nat → List Nat
  | 0, _ => []
  | k + 1, n => digs k (n / 256) ++ [n % 256]
theorem digs_length : ∀ k n, (digs k n).length = k
  | 0, _ => rfl
  | k + 1, n => by simp [digs, digs_length k]
theorem digs_lt : ∀ k n, ∀ d ∈ digs k n, d < 256
  | 0, _, d, h => by cases h
  | k + 1, n, d, h => by
    simp only [digs, List.mem_append, List.mem_singleton] at h
    rcases h with h | rfl
    · exact digs_lt k _ d h
    · omega
/-- The number of digits. -/
def valD (l : List Nat) : Nat := l.foldl (fun a d => a * 256 + d) 0
theorem valD_snoc (l : List Nat) (d : Nat) : valD (l ++ [d]) = valD l * 256 + d := by simp [valD]
theorem valD_digs : ∀ k n, valD (digs k n) = n % 256 ^ k
  | 0, n => by simp [digs, valD, Nat.mod_one]
  | k + 1, n => by
    rw [digs, valD_snoc, valD_digs k, Nat.pow_succ, Nat.mul_comm (256 ^ k) 256, Nat.mod_mul]
    omega
theorem digs_valD (l : List Nat) (h : ∀ d ∈ l, d < 256) : digs l.length (valD l) = l := by
  obtain ⟨n, hn⟩ : ∃ n, n = l.length := ⟨_, rfl⟩
  induction n generalizing l with
  | zero => rw [List.length_eq_zero_iff.1 hn.symm]; rfl
  | succ n ih =>
    have hne : l ≠ [] := fun e => by rw [e] at hn; simp at hn
    have e := List.dropLast_concat_getLast hne
    have hl : l.dropLast.length = n := by rw [List.length_dropLast]; omega
    have hd : l.getLast hne < 256 := h _ (List.getLast_mem hne)
    have := ih l.dropLast (fun d hd => h d (List.dropLast_subset l hd)) hl.symm
    rw [← e, List.length_append, valD_snoc]
    show digs (l.dropLast.length + 1) _ = _
    rw [digs]
    have e1 : (valD l.dropLast * 256 + l.getLast hne) / 256 = valD l.dropLast := by omega
    have e2 : (valD l.dropLast * 256 + l.getLast hne) % 256 = l.getLast hne := by omega
    rw [e1, e2, this]
theorem valD_lt (l : List Nat) (h : ∀ d ∈ l, d < 256) : valD l < 256 ^ l.length := by
  rw [← digs_valD l h, valD_digs, digs_length]
  exact Nat.mod_lt _ (Nat.pow_pos (by decide))
theorem digs_add (a : Nat) : ∀ b n, digs (a + b) n = digs a (n / 256 ^ b) ++ digs b n
  | 0, n => by simp [digs]
  | b + 1, n => by
    show digs (a + b) (n / 256) ++ [n % 256] = _
    rw [digs_add a b, digs, Nat.div_div_eq_div_mul, Nat.pow_succ, Nat.mul_comm 256, List.append_assoc]
theorem digs_take {k j : Nat} (h : j ≤ k) (n : Nat) : (digs k n).take j = digs j (n / 256 ^ (k - j)) := by
  have := digs_add j (k - j) n
  rw [show j + (k - j) = k by omega] at this
  rw [this, List.take_left' (digs_length _ _)]
theorem digs_drop {k j : Nat} (h : j ≤ k) (n : Nat) : (digs k n).drop j = digs (k - j) n := by
  have := digs_add j (k - j) n
  rw [show j + (k - j) = k by omega] at this
  rw [this, List.drop_left' (digs_length _ _)]
theorem digs_mod (k n : Nat) : digs k (n % 256 ^ k) = digs k n := by
  have := digs_valD (digs k n) (digs_lt k n)
  rw [digs_length, valD_digs] at this
  exact this
theorem digs_get {k i : Nat} (h : i < k) (n : Nat) : (digs k n)[i]? = some (n / 256 ^ (k - 1 - i) % 256) := by
  have h1 := digs_take (show i + 1 ≤ k by omega) n
  have h2 : ((digs k n).take (i + 1))[i]? = (digs k n)[i]? := by rw [List.getElem?_take_of_lt (by omega)]
  rw [← h2, h1, digs, List.getElem?_append_right (by rw [digs_length]; omega), digs_length, Nat.sub_self]
  rw [show k - (i + 1) = k - 1 - i by omega]
  rfl
theorem digs_zeros : ∀ t x, digs t (x * 256 ^ t) = List.replicate t 0
  | 0, _ => rfl
  | t + 1, x => by
    have e1 : x * 256 ^ (t + 1) / 256 = x * 256 ^ t := by rw [Nat.pow_succ, ← Nat.mul_assoc]; exact Nat.mul_div_cancel _ (by decide)
    have e2 : x * 256 ^ (t + 1) % 256 = 0 := by rw [Nat.pow_succ, ← Nat.mul_assoc]; exact Nat.mul_mod_left _ _
    rw [digs, e1, e2, digs_zeros t, List.replicate_succ']

/-- One more: what a carry does. -/
theorem digs_carry {k t O : Nat} (ht : t < k) (h1 : O % 256 ^ t = 256 ^ t - 1) (h2 : O / 256 ^ t % 256 ≠ 255) :
    digs k (O + 1) = digs (k - t - 1) (O / 256 ^ (t + 1)) ++ [O / 256 ^ t % 256 + 1] ++ List.replicate t 0 := by
  have hp : 0 < 256 ^ t := Nat.pow_pos (by decide)
  obtain ⟨m, hm⟩ : ∃ m, m = O / 256 ^ t := ⟨_, rfl⟩
  have hO : O + 1 = (m + 1) * 256 ^ t := by
    have := Nat.div_add_mod O (256 ^ t)
    rw [h1, ← hm, Nat.mul_comm] at this
    rw [Nat.add_mul, Nat.one_mul]
    omega
  rw [← hm] at h2 ⊢
  have e := digs_add (k - t) t (O + 1)
  rw [show k - t + t = k by omega, hO, digs_zeros, Nat.mul_div_cancel _ hp] at e
  rw [hO, e, show k - t = (k - t - 1) + 1 by omega, digs]
  have e1 : (m + 1) / 256 = m / 256 := by omega
  have e2 : (m + 1) % 256 = m % 256 + 1 := by omega
  have e3 : m / 256 = O / 256 ^ (t + 1) := by rw [hm, Nat.div_div_eq_div_mul, Nat.pow_succ]
  rw [e1, e2, e3]
  rfl
theorem digs_ones {t O : Nat} (h1 : O % 256 ^ t = 256 ^ t - 1) (h2 : O / 256 ^ t % 256 = 255) : O % 256 ^ (t + 1) = 256 ^ (t + 1) - 1 := by
  have hp : 0 < 256 ^ t := Nat.pow_pos (by decide)
  rw [Nat.pow_succ, Nat.mod_mul, h1, h2]
  omega
theorem digs_split {k t : Nat} (ht : t < k) (O : Nat) : digs (k - t) (O / 256 ^ t) = digs (k - t - 1) (O / 256 ^ (t + 1)) ++ [O / 256 ^ t % 256] := by
  conv => lhs; rw [show k - t = (k - t - 1) + 1 by omega]
  rw [digs, Nat.div_div_eq_div_mul, Nat.pow_succ]

/-- How many digits an interval of a width brings. -/
def shS (R : Nat) : Nat := if 16777216 ≤ R then 0 else if 65536 ≤ R then 1 else if 256 ≤ R then 2 else 3
theorem shS_spec {R : Nat} (h1 : 1 ≤ R) (h2 : R ≤ 4294967296) : shS R ≤ 3 ∧ 16777216 ≤ R * 256 ^ shS R ∧ R * 256 ^ shS R ≤ 4294967296 := by
  unfold shS
  split
  · simp; omega
  · split
    · simp; omega
    · split
      · simp; omega
      · simp; omega
theorem shS_step {R : Nat} (h : R < 16777216) (h0 : R ≠ 0) : shS R = shS (R * 256) + 1 := by
  unfold shS
  repeat' split
  all_goals omega

/-- An interval: L and R, of k + 4 digits. -/
def Iv (k L R : Nat) : Prop := 16777216 ≤ R ∧ R ≤ 4294967296 ∧ L + R ≤ 256 ^ (k + 4)

end Go.Proofs.Ytbhpcpcpccmacaa

namespace Go.Proofs.Ytbhpcpcpccmacaa
open Go.RowKit Go.Shelf

/-- A byte. -/
def bv (d : Nat) : Value := .int .u8 (d : Int)
theorem info_byte : (Try.prog.info? 5).map (fun i => (i.zero, i.size, i.bytes)) = some (some (.int .u8 0), 1, 1) := by kernel_rfl
theorem bv_get {l : List Nat} {i d : Nat} (h : l[i]? = some d) : (l.map bv)[i]? = some (.int .u8 (d : Int)) := by rw [List.getElem?_map, h]; rfl

/-- An encoder: its bytes, what stands behind them, how wide it is. -/
def Enc (q k L R : Nat) : HP := HP.ex fun sv => HP.all [HP.pt q #[sv, .int .u64 ((L % 4294967296 : Nat) : Int), .int .u64 (R : Int)] 106, HP.row 5 1 sv k ((digs k (L / 4294967296)).map bv)]
theorem Enc.open {w : World} {q k L R : Nat} {F : List HP} (h : Sep w (Enc q k L R :: F)) :
    ∃ a c, Sep w (HP.pt q #[.slice a k c, .int .u64 ((L % 4294967296 : Nat) : Int), .int .u64 (R : Int)] 106 :: HP.row 5 1 (.slice a k c) k ((digs k (L / 4294967296)).map bv) :: F) := by
  obtain ⟨v, h⟩ := h.ex_elim
  have h := h.all_elim
  obtain ⟨a, c, rfl⟩ := (Sep.tail h).row_form
  exact ⟨a, c, h⟩
theorem Enc.shut {w : World} {q k L R : Nat} {v : Value} {F : List HP} (h : Sep w (HP.pt q #[v, .int .u64 ((L % 4294967296 : Nat) : Int), .int .u64 (R : Int)] 106 :: HP.row 5 1 v k ((digs k (L / 4294967296)).map bv) :: F)) : Sep w (Enc q k L R :: F) :=
  Sep.ex_intro v (Sep.all_intro h)

set_option maxRecDepth 100000 in
set_option maxHeartbeats 2000000 in
theorem carry_calls {q k O : Nat} {sv x y : Value} {F : List HP} {w : World} (hO : O + 1 < 256 ^ k) (hk : k ≤ 1000000) (H : Sep w (HP.pt q #[sv, x, y] 106 :: HP.row 5 1 sv k ((digs k O).map bv) :: F)) :
    Calls Try.prog 88 #[.pointer (some ⟨q, 0, none⟩)] w fun e w' => (∃ u, e = .returned u) ∧ Sep w' (HP.pt q #[sv, x, y] 106 :: HP.row 5 1 sv k ((digs k (O + 1)).map bv) :: F) := by
  have hk0 : k ≠ 0 := fun e => by subst e; simp at hO
  obtain ⟨g, cap, _, rfl, _⟩ := H.tail.row_open hk0
  have HO := Lib.hid hO
  clear hO
  have c0 := H.cell 0 rfl
  go_enter Try.func88, Try.ntmps88
  go_wp2_with fail
  clear c0
  go_loopg [2] k (fun gk i wr => ∃ t : Nat, Hid (t ≤ k ∧ gk = k - t) ∧ Hid (O % 256 ^ t = 256 ^ t - 1) ∧ i = .int .i64 ((k : Int) - 1 - (t : Int)) ∧ Sep wr (HP.pt q #[.slice (some ⟨g, 0, none⟩) k cap, x, y] 106 :: HP.row 5 1 (.slice (some ⟨g, 0, none⟩) k cap) k ((digs (k - t) (O / 256 ^ t) ++ List.replicate t 0).map bv) :: F))
  case atStart => exact ⟨0, Lib.hid ⟨by omega, rfl⟩, Lib.hid (by simp [Nat.mod_one]), by go_num, by simpa using H⟩
  case round =>
    clear H
    obtain ⟨t, hq, ho, rfl, Hr⟩ := hrel
    obtain ⟨q1, q2⟩ := hq.out
    clear hq
    have htk : t < k := by
      rcases Nat.lt_or_ge t k with h | h
      · exact h
      · exfalso
        obtain rfl : t = k := by omega
        have h1 := ho.out
        have h2 := HO.out
        rw [Nat.mod_eq_of_lt (by omega)] at h1
        omega
    obtain ⟨j, hj⟩ : ∃ j : Nat, j = k - t - 1 := ⟨_, rfl⟩
    have hji : (k : Int) - 1 - (t : Int) = (j : Int) := by omega
    obtain ⟨d, hd⟩ : ∃ d, d = O / 256 ^ t % 256 := ⟨_, rfl⟩
    have hsp := digs_split htk O
    rw [← hd, ← hj] at hsp
    have hlen : (digs j (O / 256 ^ (t + 1))).length = j := digs_length _ _
    have hget : (((digs (k - t) (O / 256 ^ t) ++ List.replicate t 0).map bv))[j]? = some (.int .u8 (d : Int)) := by
      rw [hsp, List.append_assoc]
      exact bv_get (by rw [List.getElem?_append_right (by omega), hlen, Nat.sub_self]; rfl)
    have hset : ∀ y : Nat, ((digs (k - t) (O / 256 ^ t) ++ List.replicate t 0).map bv).set j (.int .u8 (y : Int)) = (digs j (O / 256 ^ (t + 1)) ++ [y] ++ List.replicate t 0).map bv := fun y => by
      rw [hsp, List.append_assoc, List.map_append, List.set_append_right _ _ (by rw [List.length_map, hlen]; exact Nat.le_refl _), List.length_map, hlen, Nat.sub_self]
      simp [bv]
    have hdl : d < 256 := by omega
    have c0 := Hr.cell 0 rfl
    have c1 := Hr.tail.row_cell j hget
    have f1 := Hr.tail.row_froz j
    rw [hji]
    have HJ := Lib.hid hji
    have HS := Lib.hid hset
    have hjk : (j : Int) < (k : Int) := by omega
    by_cases h255 : d = 255
    · have hon := digs_ones ho.out (by rw [← hd]; exact h255)
      have H2 := Hr.swap.row_set j (.int .u8 0)
      have hs0 : ((digs (k - t) (O / 256 ^ t) ++ List.replicate t 0).map bv).set j (.int .u8 0) = (digs j (O / 256 ^ (t + 1)) ++ [0] ++ List.replicate t 0).map bv := HS.out 0
      rw [hs0] at H2
      have H3 := H2.swap
      have hnx : (digs j (O / 256 ^ (t + 1)) ++ [0] ++ List.replicate t 0) = digs (k - (t + 1)) (O / 256 ^ (t + 1)) ++ List.replicate (t + 1) 0 := by
        rw [List.append_assoc, hj, show k - (t + 1) = k - t - 1 by omega]
        rfl
      rw [hnx] at H3
      have d0 := H3.cell 0 rfl
      have d1 := H3.tail.row_cell j (u := .int .u8 0) (by
        rw [show k - (t + 1) = j by omega]
        exact bv_get (d := 0) (by rw [List.getElem?_append_right (by omega), hlen, Nat.sub_self, List.replicate_succ]; rfl))
      have HON := Lib.hid hon
      clear hget hset hsp hd hj hji hon hnx H2 hs0
      subst h255
      go_wp2_with fail
      go_roundg (k - (t + 1))
      case rel => exact ⟨t + 1, Lib.hid ⟨by omega, rfl⟩, HON, by have := HJ.out; go_num, H3⟩
      case measure => omega
    · have hca := digs_carry htk ho.out (by rw [← hd]; exact h255)
      rw [← hd, ← hj] at hca
      have H2 := Hr.swap.row_set j (.int .u8 ((d + 1 : Nat) : Int))
      rw [HS.out (d + 1), ← hca] at H2
      have H3 := H2.swap
      have hcast : ((d + 1 : Nat) : Int) = (d : Int) + 1 := by omega
      rw [hcast] at H3
      have e1 : ((d : Int) + 1 != 0) = true := by simp; omega
      have e2 : ((d : Int) + 1) % 256 = (d : Int) + 1 := by omega
      have d0 := H3.cell 0 rfl
      have d1 : (wr.setCell ⟨g, j, none⟩ (.int .u8 ((d : Int) + 1))).cell? ⟨g, j, none⟩ = some (.int .u8 ((d : Int) + 1)) := World.cell?_setCell_same' _ _ _ (by rw [c1]; rfl)
      clear hget hset hsp hca hd hj hji H2 hcast
      go_wp2_with fail
      refine bodyPost_ret (results_none rfl _ _ _) rfl ?_
      exact ⟨⟨_, rfl⟩, H3⟩

end Go.Proofs.Ytbhpcpcpccmacaa

namespace Go.Proofs.Ytbhpcpcpccmacaa
open Go.RowKit Go.Shelf

theorem one_byte (x : Int) : ∀ u ∈ [Value.int .u8 x], u.oneCell' = true := by
  intro u hu; simp at hu; subst hu; rfl
theorem rd_new {w : World} {b : Nat} {v : Value} {T : TypeId} {F : List HP} (H : Sep w (HP.pt b #[v] T :: F)) : RdS w (.slice (some ⟨b, 0, none⟩) 1 1) 1 1 [v] :=
  ⟨rfl, .inr ⟨_, _, rfl, fun j u hu => by
    match j, hu with
    | 0, hu =>
      simp at hu
      subst hu
      exact H.cell 0 rfl⟩⟩
theorem digs_shift (k L : Nat) : digs (k + 1) (L * 256 / 4294967296) = digs k (L / 4294967296) ++ [L % 4294967296 / 16777216] := by
  rw [digs]
  have e1 : L * 256 / 4294967296 / 256 = L / 4294967296 := by omega
  have e2 : L * 256 / 4294967296 % 256 = L % 4294967296 / 16777216 := by omega
  rw [e1, e2]

set_option maxRecDepth 100000 in
set_option maxHeartbeats 8000000 in
theorem come_calls {q k L R fr wd : Nat} {F : List HP} {w : World} (hI : Iv k L R) (h1 : fr + wd ≤ R) (h2 : 1 ≤ wd) (hk : k ≤ 200000) (H : Sep w (Enc q k L R :: F)) :
    Calls Try.prog 83 #[.pointer (some ⟨q, 0, none⟩), .int .u64 (fr : Int), .int .u64 (wd : Int)] w fun e w' => (∃ u, e = .returned u) ∧ Sep w' (Enc q (k + shS wd) ((L + fr) * 256 ^ shS wd) (wd * 256 ^ shS wd) :: F) := by
  obtain ⟨i1, i2, i3⟩ := hI
  obtain ⟨a, c, H0⟩ := Enc.open H
  clear H
  have hlow : L % 4294967296 < 4294967296 := by omega
  have hfr : fr ≤ 4294967296 := by omega
  have hp4 : 256 ^ (k + 4) = 256 ^ k * 4294967296 := by rw [Nat.pow_add]
  have hO : (L + fr) / 4294967296 < 256 ^ k := by
    rw [Nat.div_lt_iff_lt_mul (by decide)]
    omega
  obtain ⟨s1, s2, s3⟩ := shS_spec h2 (show wd ≤ 4294967296 by omega)
  have c0 := H0.cell 0 rfl
  have c1 := H0.cell 1 rfl
  have c2 := H0.cell 2 rfl
  have f1 := H0.froz 1
  have f2 := H0.froz 2
  have HO := Lib.hid hO
  clear hp4 hO i3
  have hwd : (wd : Int) ≤ 4294967296 := by omega
  by_cases hc : L % 4294967296 + fr < 4294967296
  · have hb : ¬ (4294967296 : Int) ≤ ((L % 4294967296 : Nat) : Int) + (fr : Int) := by omega
    have e1 : (L + fr) % 4294967296 = L % 4294967296 + fr := by omega
    have e2 : (L + fr) / 4294967296 = L / 4294967296 := by omega
    have H1 := (H0.set 1 (.int .u64 (((L % 4294967296 : Nat) : Int) + (fr : Int)))).set 2 (.int .u64 (wd : Int))
    have e3 : (((L + fr) % 4294967296 : Nat) : Int) = ((L % 4294967296 : Nat) : Int) + (fr : Int) := by omega
    have HE : Sep ((w.setCell ⟨q, 1, none⟩ (.int .u64 (((L % 4294967296 : Nat) : Int) + (fr : Int)))).setCell ⟨q, 2, none⟩ (.int .u64 (wd : Int))) (Enc q k (L + fr) wd :: F) :=
      Enc.shut (v := .slice a k c) (by rw [e3, e2]; exact H1)
    have d1 := H1.cell 1 rfl
    have d2 := H1.cell 2 rfl
    clear e1 e2 e3 H1
    generalize L % 4294967296 = lo0 at *
    go_enter Try.func83, Try.ntmps83
    go_wp2_with fail
    clear c0 c1 c2 f1 f2 d1 d2
    clear H0
    go_loopg [] (shS wd) (fun gk wr => ∃ k' L' R' : Nat, Hid (gk = shS R' ∧ 1 ≤ R' ∧ R' ≤ 4294967296 ∧ k' + shS R' = k + shS wd ∧ L' * 256 ^ shS R' = (L + fr) * 256 ^ shS wd ∧ R' * 256 ^ shS R' = wd * 256 ^ shS wd) ∧ Sep wr (Enc q k' L' R' :: F))
    case atStart => exact ⟨k, L + fr, wd, Lib.hid ⟨rfl, h2, by omega, rfl, rfl, rfl⟩, HE⟩
    case round =>
      clear HE
      obtain ⟨k', L', R', hq, Hr⟩ := hrel
      obtain ⟨q1, q2, q3, q4, q5, q6⟩ := hq.out
      clear hq
      obtain ⟨a', c', H2⟩ := Enc.open Hr
      clear Hr
      have d0 := H2.cell 0 rfl
      have d1 := H2.cell 1 rfl
      have d2 := H2.cell 2 rfl
      by_cases hlt : R' < 16777216
      · have hst := shS_step hlt (by omega)
        have hdg := digs_shift k' L'
        have hl3 : L' * 256 % 4294967296 = L' % 4294967296 * 256 % 4294967296 := by omega
        have hlo : L' % 4294967296 < 4294967296 := by omega
        have hp5 : L' * 256 ^ shS R' = L' * 256 * 256 ^ shS (R' * 256) := by rw [hst, Nat.pow_succ, Nat.mul_comm (256 ^ _) 256, Nat.mul_assoc]
        have hp6 : R' * 256 ^ shS R' = R' * 256 * 256 ^ shS (R' * 256) := by rw [hst, Nat.pow_succ, Nat.mul_comm (256 ^ _) 256, Nat.mul_assoc]
        have HN : Hid (k' + 1 + shS (R' * 256) = k + shS wd ∧ L' * 256 * 256 ^ shS (R' * 256) = (L + fr) * 256 ^ shS wd ∧ R' * 256 * 256 ^ shS (R' * 256) = wd * 256 ^ shS wd ∧ gk = shS (R' * 256) + 1) := Lib.hid ⟨by omega, by rw [← hp5]; exact q5, by rw [← hp6]; exact q6, by omega⟩
        have HDG := Lib.hid hdg
        have HL3 := Lib.hid hl3
        have hk1 : k' ≤ 200010 := by omega
        have hR2 : (R' : Int) < 16777216 := by omega
        have h63 : k' + 1 ≤ maxLen := by unfold maxLen; omega
        have hby : (k' + 1) * 1 ≤ 140737488355328 := by omega
        clear hst hdg hl3 hp5 hp6 q1 q4 q5 q6
        generalize L' % 4294967296 = lo at *
        have hx1 : IntKind.u8.wrap ((lo : Int) / 16777216) = ((lo / 16777216 : Nat) : Int) := by
          simp only [IntKind.wrap, IntKind.signed, IntKind.bits]
          first | omega | (simp; omega)
        obtain ⟨x, hx⟩ : ∃ x : Nat, x = lo / 16777216 := ⟨_, rfl⟩
        rw [← hx] at hx1 HDG
        have hxl : x < 256 := by omega
        have HX := Lib.hid hx
        clear hx
        have H3a := (H2.alloc #[.int .u8 (x : Int)] 5).drew
        have hrn := rd_new H3a
        have H3 := H3a.rot3
        clear H3a
        have e0 := H3.tail.tail.cell 0 rfl
        have e1 := H3.tail.tail.cell 1 rfl
        go_wp2_with fail
        go_region_law ((refine step_append_src rfl (.tmp 42) (.tmp 49) 33 rfl 5 (.int .u8 0) 1 1 Try.underlying33 info_byte rfl (by decide) (.slice a' k' c') k' _ rfl H3 (.slice (some ⟨wr.heap.size, 0, none⟩) 1 1) 1 [.int .u8 (x : Int)] rfl hrn (one_byte _) h63 hby ?_; intro va vc w7 H7; have g0 := H7.tail.tail.froz 0; have h70 := H7.tail.tail.cell 0 rfl))
        all_goals (
          have H8 := H7.rot3.set 0 (.slice va (k' + 1) vc)
          have hm : (digs k' (L' / 4294967296)).map bv ++ [.int .u8 (x : Int)] = (digs (k' + 1) (L' * 256 / 4294967296)).map bv := by rw [HDG.out]; simp [bv]
          rw [hm] at H8
          have H9 := ((H8.set 1 (.int .u64 ((lo : Int) * 256 % 4294967296))).set 2 (.int .u64 ((R' : Int) * 256)))
          have i1 := H8.cell 1 rfl
          have i2 := H8.cell 2 rfl
          have f1 := H8.froz 1
          have f2 := H8.froz 2
          have ew : IntKind.u64.wrap ((R' : Int) * 256) = (R' : Int) * 256 := by
            simp only [IntKind.wrap, IntKind.signed, IntKind.bits]
            first | omega | (simp; omega)
          have el : IntKind.u64.wrap ((lo : Int) * 256) = (lo : Int) * 256 := by
            simp only [IntKind.wrap, IntKind.signed, IntKind.bits]
            first | omega | (simp; omega)
          have hne : (4294967296 : Int) ≠ 0 := by decide
          have HE9 : Hid (Sep (((w7.setCell ⟨q, 0, none⟩ (.slice va (k' + 1) vc)).setCell ⟨q, 1, none⟩ (.int .u64 ((lo : Int) * 256 % 4294967296))).setCell ⟨q, 2, none⟩ (.int .u64 ((R' : Int) * 256))) (Enc q (k' + 1) (L' * 256) (R' * 256) :: F)) := by
            refine Lib.hid (Enc.shut (v := .slice va (k' + 1) vc) ?_)
            rw [HL3.out]
            exact H9.rot3.tail
          clear H7 H8 H9 hm h70 g0
          go_wp2_with fail
          go_region
          clear i1 i2 f1 f2 ew el hne d0 d1 d2 e0 e1
          go_wp2_with fail
          go_roundg (shS (R' * 256))
          case rel =>
            obtain ⟨n1, n2, n3, n4⟩ := HN.out
            exact ⟨k' + 1, L' * 256, R' * 256, Lib.hid ⟨rfl, by omega, by omega, n1, n2, n3⟩, HE9.out.drew⟩
          case measure => have := HN.out; omega)
      · have h0 : shS R' = 0 := by unfold shS; rw [if_pos (by omega)]
        rw [h0] at q4 q5 q6
        simp only [Nat.add_zero, Nat.pow_zero, Nat.mul_one] at q4 q5 q6
        have hR2 : ¬ (R' : Int) < 16777216 := by omega
        have H3 := Enc.shut H2
        rw [q4, q5, q6] at H3
        have HF := Lib.hid H3
        clear H3 q4 q5 q6 h0
        go_wp2_with fail
        go_end0
        exact ⟨⟨_, rfl⟩, HF.out⟩
  · have hb : (4294967296 : Int) ≤ ((L % 4294967296 : Nat) : Int) + (fr : Int) := by omega
    have e1 : (L + fr) % 4294967296 = L % 4294967296 + fr - 4294967296 := by omega
    have e2 : (L + fr) / 4294967296 = L / 4294967296 + 1 := by omega
    have H1 := (H0.set 1 (.int .u64 (((L % 4294967296 : Nat) : Int) + (fr : Int)))).set 2 (.int .u64 (wd : Int))
    have H2 := H1.set 1 (.int .u64 (((L % 4294967296 : Nat) : Int) + (fr : Int) - 4294967296))
    have e3 : (((L + fr) % 4294967296 : Nat) : Int) = ((L % 4294967296 : Nat) : Int) + (fr : Int) - 4294967296 := by omega
    rw [e2] at HO
    have HE : Hid (∀ w', Sep w' (HP.pt q #[.slice a k c, .int .u64 (((L % 4294967296 : Nat) : Int) + (fr : Int) - 4294967296), .int .u64 (wd : Int)] 106 :: HP.row 5 1 (.slice a k c) k ((digs k (L / 4294967296 + 1)).map bv) :: F) → Sep w' (Enc q k (L + fr) wd :: F)) :=
      Lib.hid (fun w' h => Enc.shut (v := .slice a k c) (by rw [e3, e2]; exact h))
    have d1 := H1.cell 1 rfl
    have g1 := H1.froz 1
    have d2 := H2.cell 1 rfl
    have CA := carry_calls HO.out (by omega) H2
    clear e1 e2 e3 H1
    generalize L % 4294967296 = lo0 at *
    go_enter Try.func83, Try.ntmps83
    go_wp2_with fail
    refine CA.mono ?_
    rintro _ W ⟨⟨u, rfl⟩, HW⟩
    have HE := HE.out W HW
    clear c0 c1 c2 f1 f2 d1 d2 g1 H2 CA HW
    go_wp2_with fail
    clear H0
    go_loopg [] (shS wd) (fun gk wr => ∃ k' L' R' : Nat, Hid (gk = shS R' ∧ 1 ≤ R' ∧ R' ≤ 4294967296 ∧ k' + shS R' = k + shS wd ∧ L' * 256 ^ shS R' = (L + fr) * 256 ^ shS wd ∧ R' * 256 ^ shS R' = wd * 256 ^ shS wd) ∧ Sep wr (Enc q k' L' R' :: F))
    case atStart => exact ⟨k, L + fr, wd, Lib.hid ⟨rfl, h2, by omega, rfl, rfl, rfl⟩, HE⟩
    case round =>
      clear HE
      obtain ⟨k', L', R', hq, Hr⟩ := hrel
      obtain ⟨q1, q2, q3, q4, q5, q6⟩ := hq.out
      clear hq
      obtain ⟨a', c', H2⟩ := Enc.open Hr
      clear Hr
      have d0 := H2.cell 0 rfl
      have d1 := H2.cell 1 rfl
      have d2 := H2.cell 2 rfl
      by_cases hlt : R' < 16777216
      · have hst := shS_step hlt (by omega)
        have hdg := digs_shift k' L'
        have hl3 : L' * 256 % 4294967296 = L' % 4294967296 * 256 % 4294967296 := by omega
        have hlo : L' % 4294967296 < 4294967296 := by omega
        have hp5 : L' * 256 ^ shS R' = L' * 256 * 256 ^ shS (R' * 256) := by rw [hst, Nat.pow_succ, Nat.mul_comm (256 ^ _) 256, Nat.mul_assoc]
        have hp6 : R' * 256 ^ shS R' = R' * 256 * 256 ^ shS (R' * 256) := by rw [hst, Nat.pow_succ, Nat.mul_comm (256 ^ _) 256, Nat.mul_assoc]
        have HN : Hid (k' + 1 + shS (R' * 256) = k + shS wd ∧ L' * 256 * 256 ^ shS (R' * 256) = (L + fr) * 256 ^ shS wd ∧ R' * 256 * 256 ^ shS (R' * 256) = wd * 256 ^ shS wd ∧ gk = shS (R' * 256) + 1) := Lib.hid ⟨by omega, by rw [← hp5]; exact q5, by rw [← hp6]; exact q6, by omega⟩
        have HDG := Lib.hid hdg
        have HL3 := Lib.hid hl3
        have hk1 : k' ≤ 200010 := by omega
        have hR2 : (R' : Int) < 16777216 := by omega
        have h63 : k' + 1 ≤ maxLen := by unfold maxLen; omega
        have hby : (k' + 1) * 1 ≤ 140737488355328 := by omega
        clear hst hdg hl3 hp5 hp6 q1 q4 q5 q6
        generalize L' % 4294967296 = lo at *
        have hx1 : IntKind.u8.wrap ((lo : Int) / 16777216) = ((lo / 16777216 : Nat) : Int) := by
          simp only [IntKind.wrap, IntKind.signed, IntKind.bits]
          first | omega | (simp; omega)
        obtain ⟨x, hx⟩ : ∃ x : Nat, x = lo / 16777216 := ⟨_, rfl⟩
        rw [← hx] at hx1 HDG
        have hxl : x < 256 := by omega
        have HX := Lib.hid hx
        clear hx
        have H3a := (H2.alloc #[.int .u8 (x : Int)] 5).drew
        have hrn := rd_new H3a
        have H3 := H3a.rot3
        clear H3a
        have e0 := H3.tail.tail.cell 0 rfl
        have e1 := H3.tail.tail.cell 1 rfl
        go_wp2_with fail
        go_region_law ((refine step_append_src rfl (.tmp 42) (.tmp 49) 33 rfl 5 (.int .u8 0) 1 1 Try.underlying33 info_byte rfl (by decide) (.slice a' k' c') k' _ rfl H3 (.slice (some ⟨wr.heap.size, 0, none⟩) 1 1) 1 [.int .u8 (x : Int)] rfl hrn (one_byte _) h63 hby ?_; intro va vc w7 H7; have g0 := H7.tail.tail.froz 0; have h70 := H7.tail.tail.cell 0 rfl))
        all_goals (
          have H8 := H7.rot3.set 0 (.slice va (k' + 1) vc)
          have hm : (digs k' (L' / 4294967296)).map bv ++ [.int .u8 (x : Int)] = (digs (k' + 1) (L' * 256 / 4294967296)).map bv := by rw [HDG.out]; simp [bv]
          rw [hm] at H8
          have H9 := ((H8.set 1 (.int .u64 ((lo : Int) * 256 % 4294967296))).set 2 (.int .u64 ((R' : Int) * 256)))
          have i1 := H8.cell 1 rfl
          have i2 := H8.cell 2 rfl
          have f1 := H8.froz 1
          have f2 := H8.froz 2
          have ew : IntKind.u64.wrap ((R' : Int) * 256) = (R' : Int) * 256 := by
            simp only [IntKind.wrap, IntKind.signed, IntKind.bits]
            first | omega | (simp; omega)
          have el : IntKind.u64.wrap ((lo : Int) * 256) = (lo : Int) * 256 := by
            simp only [IntKind.wrap, IntKind.signed, IntKind.bits]
            first | omega | (simp; omega)
          have hne : (4294967296 : Int) ≠ 0 := by decide
          have HE9 : Hid (Sep (((w7.setCell ⟨q, 0, none⟩ (.slice va (k' + 1) vc)).setCell ⟨q, 1, none⟩ (.int .u64 ((lo : Int) * 256 % 4294967296))).setCell ⟨q, 2, none⟩ (.int .u64 ((R' : Int) * 256))) (Enc q (k' + 1) (L' * 256) (R' * 256) :: F)) := by
            refine Lib.hid (Enc.shut (v := .slice va (k' + 1) vc) ?_)
            rw [HL3.out]
            exact H9.rot3.tail
          clear H7 H8 H9 hm h70 g0
          go_wp2_with fail
          go_region
          clear i1 i2 f1 f2 ew el hne d0 d1 d2 e0 e1
          go_wp2_with fail
          go_roundg (shS (R' * 256))
          case rel =>
            obtain ⟨n1, n2, n3, n4⟩ := HN.out
            exact ⟨k' + 1, L' * 256, R' * 256, Lib.hid ⟨rfl, by omega, by omega, n1, n2, n3⟩, HE9.out.drew⟩
          case measure => have := HN.out; omega)
      · have h0 : shS R' = 0 := by unfold shS; rw [if_pos (by omega)]
        rw [h0] at q4 q5 q6
        simp only [Nat.add_zero, Nat.pow_zero, Nat.mul_one] at q4 q5 q6
        have hR2 : ¬ (R' : Int) < 16777216 := by omega
        have H3 := Enc.shut H2
        rw [q4, q5, q6] at H3
        have HF := Lib.hid H3
        clear H3 q4 q5 q6 h0
        go_wp2_with fail
        go_end0
        exact ⟨⟨_, rfl⟩, HF.out⟩

end Go.Proofs.Ytbhpcpcpccmacaa

namespace Go.Proofs.Ytbhpcpcpccmacaa
open Go.RowKit Go.Shelf

/-- A symbol's part: where it begins, and how wide it is. -/
def ptF (cs : List Int) (s R : Nat) : Nat := (isum (cs.take s)).toNat * (R / (isum cs).toNat)
def ptW (cs : List Int) (s R : Nat) : Nat := if s + 1 = cs.length then R - ptF cs s R else (cs.getD s 0).toNat * (R / (isum cs).toNat)
theorem last_iff {cs : List Int} {s : Nat} (hp : ∀ x ∈ cs, 1 ≤ x) (h : s < cs.length) : isum (cs.take (s + 1)) = isum cs ↔ s + 1 = cs.length := by
  have h1 : isum cs = isum (cs.take (s + 1)) + isum (cs.drop (s + 1)) := by rw [← isum_append, List.take_append_drop]
  have h2 := isum_nonneg (l := cs.drop (s + 1)) (fun x hx => hp x (List.mem_of_mem_drop hx))
  rw [List.length_drop] at h2
  constructor
  · intro h3; omega
  · intro h3; rw [h3, List.take_length]
theorem pt_spec {cs : List Int} {s R : Nat} (hv : Vt cs) (h : s < cs.length) (hR : 16777216 ≤ R) :
    ptF cs s R + ptW cs s R ≤ R ∧ 1 ≤ ptW cs s R ∧ (s + 1 = cs.length → ptF cs s R + ptW cs s R = R) ∧ (s + 1 < cs.length → ptF cs s R + ptW cs s R = ptF cs (s + 1) R) := by
  obtain ⟨v1, v2, v3, v4⟩ := hv
  have hs := isum_take_succ h
  have h0 := isum_take_nonneg v3 s
  have hle := isum_take_le v3 (s + 1)
  have hx := v3 cs[s] (List.getElem_mem h)
  have hpos := isum_nonneg v3
  have hg : cs.getD s 0 = cs[s] := getD_get h
  unfold ptW
  rw [hg]
  unfold ptF
  rw [hs]
  generalize isum (cs.take s) = c at *
  generalize cs[s] = f at *
  rw [hs] at hle
  generalize isum cs = n at *
  obtain ⟨c, rfl⟩ := Int.eq_ofNat_of_zero_le h0
  obtain ⟨f, rfl⟩ := Int.eq_ofNat_of_zero_le (show 0 ≤ f by omega)
  obtain ⟨n, rfl⟩ := Int.eq_ofNat_of_zero_le (show 0 ≤ n by omega)
  rw [show ((c : Int) + (f : Int)).toNat = c + f by omega]
  simp only [Int.toNat_natCast]
  have hn : 0 < n := by omega
  have hr : 1 ≤ R / n := (Nat.le_div_iff_mul_le hn).2 (by omega)
  have hnr : n * (R / n) ≤ R := Nat.mul_div_le _ _
  have hcf : (c + f) * (R / n) ≤ n * (R / n) := Nat.mul_le_mul_right _ (by omega)
  rw [Nat.add_mul] at hcf ⊢
  have hf : 1 * 1 ≤ f * (R / n) := Nat.mul_le_mul (by omega) hr
  split
  · refine ⟨by omega, by omega, by omega, by omega⟩
  · refine ⟨by omega, by omega, by omega, by omega⟩

set_option maxRecDepth 100000 in
set_option maxHeartbeats 2000000 in
theorem part_calls {b s R : Nat} {cs : List Int} {F : List HP} {w : World} (hv : Vt cs) (hs : s < cs.length) (hR : R ≤ 4294967296) (H : Sep w (Tbl b cs :: F)) :
    Calls Try.prog 84 #[.pointer (some ⟨b, 0, none⟩), .int .i64 (s : Int), .int .u64 (R : Int)] w fun e w' => e = .returned (.tuple #[.int .u64 (ptF cs s R : Int), .int .u64 (ptW cs s R : Int)]) ∧ w = w' := by
  have hlow : lowI cs s = isum (cs.take s) := by unfold lowI; rw [if_pos ⟨by omega, by omega⟩, Int.toNat_natCast]
  have hcnt : countI cs s = cs[s] := by unfold countI; rw [if_pos ⟨by omega, by omega⟩, Int.toNat_natCast, getD_get hs]
  have hli := last_iff hv.2.2.1 hs
  obtain ⟨v1, v2, v3, v4⟩ := hv
  have h1 := isum_take_succ hs
  have h0 := isum_take_nonneg v3 s
  have hle := isum_take_le v3 (s + 1)
  have hx := v3 cs[s] (List.getElem_mem hs)
  have hpos := isum_nonneg v3
  have hg : cs.getD s 0 = cs[s] := getD_get hs
  have eF : ptF cs s R = (isum (cs.take s)).toNat * (R / (isum cs).toNat) := rfl
  have eW : ptW cs s R = if s + 1 = cs.length then R - ptF cs s R else (cs.getD s 0).toNat * (R / (isum cs).toNat) := rfl
  rw [hg] at eW
  have L1 := low_calls (i := (s : Int)) ⟨v1, v2, v3, v4⟩ H
  have C1 := count_calls (i := (s : Int)) H
  have T1 := total_calls H
  rw [hlow] at L1
  rw [hcnt] at C1
  rw [h1] at hli hle
  generalize ptF cs s R = pf at *
  generalize ptW cs s R = pw at *
  generalize isum (cs.take s) = c at *
  generalize cs[s] = f at *
  generalize isum cs = n at *
  obtain ⟨c, rfl⟩ := Int.eq_ofNat_of_zero_le h0
  obtain ⟨f, rfl⟩ := Int.eq_ofNat_of_zero_le (show 0 ≤ f by omega)
  obtain ⟨n, rfl⟩ := Int.eq_ofNat_of_zero_le (show 0 ≤ n by omega)
  simp only [Int.toNat_natCast] at eF eW
  have hn : 0 < n := by omega
  have hnr : n * (R / n) ≤ R := Nat.mul_div_le _ _
  have hcf : (c + f) * (R / n) ≤ n * (R / n) := Nat.mul_le_mul_right _ (by omega)
  rw [Nat.add_mul] at hcf
  have wr : ∀ x : Nat, x ≤ 4294967296 → IntKind.u64.wrap (x : Int) = (x : Int) := fun x hx => by
    simp only [IntKind.wrap, IntKind.signed, IntKind.bits]
    first | omega | (simp; omega)
  have wi : ∀ x : Nat, x ≤ 4294967296 → IntKind.i64.wrap (x : Int) = (x : Int) := fun x hx => by
    simp only [IntKind.wrap, IntKind.signed, IntKind.bits]
    first | omega | (simp; omega)
  have n0 : ((n : Int) == 0) = false := by simp; omega
  have n1 : (n : Int) ≠ 0 := by omega
  have n2 : ¬ n = 0 := by omega
  have wc := wr c (by omega)
  have wf := wr f (by omega)
  have wn := wr n (by omega)
  have wcf := wr (c + f) (by omega)
  have icf := wi (c + f) (by omega)
  have hdl : R / n ≤ 4294967296 := Nat.le_trans (Nat.div_le_self _ _) hR
  have hdv : (R : Int) / (n : Int) = ((R / n : Nat) : Int) := rfl
  have hdt : (R : Int).tdiv (n : Int) = ((R / n : Nat) : Int) := rfl
  generalize R / n = r at *
  have hm1 : (c : Int) * (r : Int) = ((c * r : Nat) : Int) := by simp
  have hm2 : (f : Int) * (r : Int) = ((f * r : Nat) : Int) := by simp
  generalize c * r = p1 at *
  generalize f * r = p2 at *
  have wm1 := wr p1 (by omega)
  have wm2 := wr p2 (by omega)
  have wd := wr r hdl
  have EF := Lib.hid eF
  have hp12 : p1 + p2 ≤ R := by omega
  clear wr wi eF hnr hcf h1 hg hlow hcnt
  by_cases hl : s + 1 = cs.length
  · have hb : (c : Int) + (f : Int) = (n : Int) := hli.2 hl
    rw [if_pos hl] at eW
    have EW := Lib.hid eW
    have hsub : ((R : Int) - (p1 : Int)) = ((R - p1 : Nat) : Int) := by omega
    clear eW
    go_enter Try.func84, Try.ntmps84
    go_wp2_with fail
    refine T1.mono ?_
    rintro _ _ ⟨rfl, rfl⟩
    go_wp2_with fail
    refine L1.mono ?_
    rintro _ _ ⟨rfl, rfl⟩
    go_wp2_with fail
    refine C1.mono ?_
    rintro _ _ ⟨rfl, rfl⟩
    go_wp2_with fail
    refine T1.mono ?_
    rintro _ _ ⟨rfl, rfl⟩
    go_wp2_with fail
    go_ret2
    exact ⟨by rw [EW.out, EF.out]; rfl, rfl⟩
  · have hb : ¬ (c : Int) + (f : Int) = (n : Int) := fun h => hl (hli.1 h)
    rw [if_neg hl] at eW
    have EW := Lib.hid eW
    clear eW
    go_enter Try.func84, Try.ntmps84
    go_wp2_with fail
    refine T1.mono ?_
    rintro _ _ ⟨rfl, rfl⟩
    go_wp2_with fail
    refine L1.mono ?_
    rintro _ _ ⟨rfl, rfl⟩
    go_wp2_with fail
    refine C1.mono ?_
    rintro _ _ ⟨rfl, rfl⟩
    go_wp2_with fail
    refine T1.mono ?_
    rintro _ _ ⟨rfl, rfl⟩
    go_wp2_with fail
    go_ret2
    exact ⟨by rw [EW.out, EF.out]; rfl, rfl⟩

set_option maxRecDepth 100000 in
set_option maxHeartbeats 2000000 in
theorem cnew_calls {F : List HP} {w : World} (H : Sep w F) :
    Calls Try.prog 55 #[] w fun e w' => ∃ q, e = .returned (.pointer (some ⟨q, 0, none⟩)) ∧ Sep w' (Enc q 0 0 4294967296 :: F) := by
  have H1 := H.alloc #[.slice none 0 0, .int .u64 0, .int .u64 4294967296] 106
  have H2 : Sep _ (Enc w.heap.size 0 0 4294967296 :: F) := Enc.shut (v := .slice none 0 0) (Sep.swap (H1.row_nil _ 1))
  go_enter Try.func55, Try.ntmps55
  go_wp2_with fail
  go_ret
  exact ⟨_, rfl, H2⟩

/-- The interval behind a symbol. -/
def stepI (x : Nat × Nat × Nat) (cs : List Int) (s : Nat) : Nat × Nat × Nat :=
  (x.1 + shS (ptW cs s x.2.2), (x.2.1 + ptF cs s x.2.2) * 256 ^ shS (ptW cs s x.2.2), ptW cs s x.2.2 * 256 ^ shS (ptW cs s x.2.2))
theorem shS_le2 {R : Nat} (h : 256 ≤ R) : shS R ≤ 2 := by unfold shS; split <;> (try split) <;> (try split) <;> omega
theorem ptW_big {cs : List Int} {s R : Nat} (hv : Vt cs) (h : s < cs.length) (hR : 16777216 ≤ R) : 256 ≤ ptW cs s R := by
  obtain ⟨p1, p2, p3, p4⟩ := pt_spec hv h hR
  obtain ⟨v1, v2, v3, v4⟩ := hv
  have hpos := isum_nonneg v3
  have hx := v3 cs[s] (List.getElem_mem h)
  have hg : cs.getD s 0 = cs[s] := getD_get h
  have h1 := isum_take_succ h
  have h0 := isum_take_nonneg v3 s
  have hle := isum_take_le v3 (s + 1)
  unfold ptW ptF
  rw [hg]
  rw [h1] at hle
  generalize isum (cs.take s) = c at *
  generalize cs[s] = f at *
  generalize isum cs = n at *
  obtain ⟨c, rfl⟩ := Int.eq_ofNat_of_zero_le h0
  obtain ⟨f, rfl⟩ := Int.eq_ofNat_of_zero_le (show 0 ≤ f by omega)
  obtain ⟨n, rfl⟩ := Int.eq_ofNat_of_zero_le (show 0 ≤ n by omega)
  simp only [Int.toNat_natCast]
  have hn : 0 < n := by omega
  have hr : 256 ≤ R / n := (Nat.le_div_iff_mul_le hn).2 (by omega)
  have hnr : n * (R / n) ≤ R := Nat.mul_div_le _ _
  have hcf : (c + f) * (R / n) ≤ n * (R / n) := Nat.mul_le_mul_right _ (by omega)
  rw [Nat.add_mul] at hcf
  have hf : 1 * 256 ≤ f * (R / n) := Nat.mul_le_mul (by omega) hr
  split <;> omega
theorem stepI_iv {k L R : Nat} {cs : List Int} {s : Nat} (hI : Iv k L R) (hv : Vt cs) (h : s < cs.length) :
    Iv (stepI (k, L, R) cs s).1 (stepI (k, L, R) cs s).2.1 (stepI (k, L, R) cs s).2.2 ∧ (stepI (k, L, R) cs s).1 ≤ k + 2 := by
  obtain ⟨i1, i2, i3⟩ := hI
  obtain ⟨p1, p2, -, -⟩ := pt_spec hv h i1
  obtain ⟨s1, s2, s3⟩ := shS_spec p2 (by omega)
  have h2 := shS_le2 (ptW_big hv h i1)
  refine ⟨⟨s2, s3, ?_⟩, by simp only [stepI]; omega⟩
  simp only [stepI]
  rw [← Nat.add_mul, show k + shS (ptW cs s R) + 4 = (k + 4) + shS (ptW cs s R) by omega, Nat.pow_add]
  exact Nat.mul_le_mul_right _ (by omega)

/-- An encoder at an interval. -/
def EncI (q : Nat) (x : Nat × Nat × Nat) : HP := Enc q x.1 x.2.1 x.2.2
def IvI (x : Nat × Nat × Nat) : Prop := Iv x.1 x.2.1 x.2.2

set_option maxRecDepth 100000 in
set_option maxHeartbeats 2000000 in
theorem encode_ok {b q s : Nat} {x : Nat × Nat × Nat} {cs : List Int} {F : List HP} {w : World} (hI : IvI x) (hk : x.1 ≤ 200000) (hv : Vt cs) (hs : s < cs.length) (H : Sep w (EncI q x :: Tbl b cs :: F)) :
    Calls Try.prog 57 #[.pointer (some ⟨q, 0, none⟩), .pointer (some ⟨b, 0, none⟩), .int .i64 (s : Int)] w fun e w' => e = .returned (.int .i64 0) ∧ Sep w' (EncI q (stepI x cs s) :: Tbl b cs :: F) := by
  obtain ⟨k, L, R⟩ := x
  change Sep w (Enc q k L R :: Tbl b cs :: F) at H
  have hI : Iv k L R := hI
  obtain ⟨p1, p2, -, -⟩ := pt_spec hv hs hI.1
  have C1 := come_calls hI p1 p2 hk H
  obtain ⟨a, c, H0⟩ := Enc.open H
  have c2 := H0.cell 2 rfl
  have S1 := symbols_calls H.swap
  have P1 := part_calls hv hs hI.2.1 H.swap
  have h1 : ((cs.length : Int) == 0) = false := by simp; intro h; subst h; exact absurd hs (by simp)
  have h2 : ¬ cs = [] := by intro h; subst h; exact absurd hs (by simp)
  have h3 : ¬ (cs.length : Int) ≤ (s : Int) := by omega
  have hIR := hI.2.1
  generalize hpf : ptF cs s R = pf at *
  generalize hpw : ptW cs s R = pw at *
  have HPF := Lib.hid hpf
  have HPW := Lib.hid hpw
  clear hpf hpw
  go_enter Try.func57, Try.ntmps57
  go_wp2_with fail
  refine S1.mono ?_
  rintro _ _ ⟨rfl, rfl⟩
  go_wp2_with fail
  refine S1.mono ?_
  rintro _ _ ⟨rfl, rfl⟩
  go_wp2_with fail
  refine P1.mono ?_
  rintro _ _ ⟨rfl, rfl⟩
  go_wp2_with fail
  refine C1.mono ?_
  rintro _ _ ⟨⟨u, rfl⟩, H2⟩
  go_wp2_with fail
  go_ret
  refine ⟨rfl, ?_⟩
  unfold EncI stepI
  simp only
  rw [HPF.out, HPW.out]
  exact H2

end Go.Proofs.Ytbhpcpcpccmacaa
