/- coder: steps; code. coder, the reference: First, add, Come. coder, the reference: less, wide, In. coder, the reference: In. -/
import Derived.Test.YtbhpcpcpccmacaaGH
import Derived.Test.YtbhpcpcpccmacaaGG

namespace Go.Proofs.Ytbhpcpcpccmacaa
open Go.RowKit Go.Shelf

/-- A step: the value of its counts, the counts, the symbol. -/
abbrev Stp := Value × List Int × Int
def stpCells (its : List Stp) : List Value := its.flatMap fun p => [p.1, .int .i64 p.2.2]
theorem stp_get {its : List Stp} {i : Nat} (h : i < its.length) : (stpCells its)[i * 2]? = some its[i].1 ∧ (stpCells its)[i * 2 + 1]? = some (.int .i64 its[i].2.2) := by
  induction its generalizing i with
  | nil => simp at h
  | cons x its ih =>
    cases i with
    | zero => exact ⟨rfl, rfl⟩
    | succ i =>
      have hi : i < its.length := by simpa using h
      have := ih hi
      simp only [stpCells, List.flatMap_cons, List.getElem_cons_succ] at this ⊢
      have e1 : (i + 1) * 2 = (i * 2) + 2 := by omega
      rw [e1]
      exact this
/-- A row of steps that can be read. -/
def StpRd (F : List HP) (v : Value) (its : List Stp) : Prop := Reads F v its.length 2 (stpCells its) ∧ ∀ p ∈ its, Reads F p.1 p.2.1.length 1 (p.2.1.map iv)
theorem StpRd.cons {F : List HP} {v : Value} {its : List Stp} {X : HP} (h : StpRd F v its) : StpRd (X :: F) v its := ⟨h.1.cons, fun p hp => (h.2 p hp).cons⟩
/-- The interval behind some steps. -/
def runI (x : Nat × Nat × Nat) (its : List Stp) : Nat × Nat × Nat := its.foldl (fun x p => stepI x p.2.1 p.2.2.toNat) x
def firstI : Nat × Nat × Nat := (0, 0, 4294967296)
theorem firstI_iv : IvI firstI := ⟨by decide, by decide, by decide⟩
theorem runI_snoc (x : Nat × Nat × Nat) (l : List Stp) (p : Stp) : runI x (l ++ [p]) = stepI (runI x l) p.2.1 p.2.2.toNat := by simp [runI]
theorem stepI_ok {x : Nat × Nat × Nat} {cs : List Int} {s : Int} (hI : IvI x) (h : RightS cs s) : IvI (stepI x cs s.toNat) ∧ (stepI x cs s.toNat).1 ≤ x.1 + 2 := by
  obtain ⟨k, L, R⟩ := x
  exact stepI_iv hI h.1 (by have := h.2; omega)
theorem runI_ok {x : Nat × Nat × Nat} {its : List Stp} (hI : IvI x) (h : ∀ p ∈ its, RightS p.2.1 p.2.2) : IvI (runI x its) ∧ (runI x its).1 ≤ x.1 + 2 * its.length := by
  induction its using rev_ind with
  | h0 => exact ⟨hI, Nat.le_refl _⟩
  | h1 l p ih =>
    obtain ⟨a1, a2⟩ := ih (fun q hq => h q (by simp [hq]))
    obtain ⟨b1, b2⟩ := stepI_ok a1 (h p (by simp))
    rw [runI_snoc]
    exact ⟨b1, by simp only [List.length_append, List.length_singleton]; omega⟩
theorem runI_take {x : Nat × Nat × Nat} {its : List Stp} {t : Nat} (h : t < its.length) : runI x (its.take (t + 1)) = stepI (runI x (its.take t)) its[t].2.1 its[t].2.2.toNat := by
  rw [List.take_succ_eq_append_getElem h, runI_snoc]

end Go.Proofs.Ytbhpcpcpccmacaa

namespace Go.Proofs.Ytbhpcpcpccmacaa
open Go.RowKit Go.Shelf

/-- A digit. -/
def dv (d : Nat) : Value := .int .i64 (d : Int)
theorem dv_one (l : List Nat) : ∀ u ∈ l.map dv, u.oneCell' = true := by
  intro u hu; simp only [List.mem_map] at hu; obtain ⟨d, -, rfl⟩ := hu; rfl
theorem dv_at {l : List Nat} {i d : Nat} (h : l[i]? = some d) : (l.map dv)[i]? = some (.int .i64 (d : Int)) := by rw [List.getElem?_map, h]; rfl

theorem add_next {L N t : Nat} : (L % 256 ^ (t + 1) + N) / 256 ^ (t + 1) = ((L % 256 ^ t + N) / 256 ^ t + L / 256 ^ t % 256) / 256 := by
  have hp : 0 < 256 ^ t := Nat.pow_pos (by decide)
  rw [Nat.pow_succ, Nat.mod_mul, ← Nat.div_div_eq_div_mul]
  congr 1
  rw [show L % 256 ^ t + 256 ^ t * (L / 256 ^ t % 256) + N = (L % 256 ^ t + N) + 256 ^ t * (L / 256 ^ t % 256) by omega, Nat.add_mul_div_left _ _ hp]
theorem add_digit {L N t : Nat} : (L + N) / 256 ^ t = L / 256 ^ t + (L % 256 ^ t + N) / 256 ^ t := by
  have hp : 0 < 256 ^ t := Nat.pow_pos (by decide)
  have := Nat.div_add_mod L (256 ^ t)
  conv => lhs; rw [← this]
  rw [show 256 ^ t * (L / 256 ^ t) + L % 256 ^ t + N = (L % 256 ^ t + N) + 256 ^ t * (L / 256 ^ t) by omega, Nat.add_mul_div_left _ _ hp, Nat.add_comm]
theorem digs_one_add (t S : Nat) : digs (t + 1) S = [S / 256 ^ t % 256] ++ digs t S := by
  have := digs_add 1 t S
  rw [Nat.add_comm 1 t] at this
  exact this

theorem digs_shl (m L : Nat) : digs (m + 1) (L * 256) = digs m L ++ [0] := by
  rw [digs, Nat.mul_div_cancel _ (by decide), Nat.mul_mod_left]

end Go.Proofs.Ytbhpcpcpccmacaa

namespace Go.Proofs.Ytbhpcpcpccmacaa
open Go.RowKit Go.Shelf

theorem valD_less {p r1 r2 : List Nat} {x y : Nat} (h1 : ∀ d ∈ r1, d < 256) (hl : r1.length = r2.length) (h : x < y) : valD (p ++ [x] ++ r1) < valD (p ++ [y] ++ r2) := by
  have a1 := valD_lt r1 h1
  rw [valD_append (p ++ [x]), valD_append (p ++ [y]), valD_snoc, valD_snoc, ← hl]
  have : (valD p * 256 + x + 1) * 256 ^ r1.length ≤ (valD p * 256 + y) * 256 ^ r1.length := Nat.mul_le_mul_right _ (by omega)
  rw [Nat.add_mul _ 1, Nat.one_mul] at this
  omega
theorem split_at {l : List Nat} {k : Nat} (h : k < l.length) : l = l.take k ++ [l[k]] ++ l.drop (k + 1) := by
  rw [← List.take_succ_eq_append_getElem h, List.take_append_drop]

/-- Bytes as so many digits. -/
def wideL (b : List Nat) (K : Nat) : List Nat := (b ++ List.replicate K 0).take K
theorem wideL_length (b : List Nat) (K : Nat) : (wideL b K).length = K := by rw [wideL, List.length_take, List.length_append, List.length_replicate]; omega
theorem wideL_lt {b : List Nat} (K : Nat) (h : ∀ d ∈ b, d < 256) : ∀ d ∈ wideL b K, d < 256 := by
  intro d hd
  have := List.mem_of_mem_take hd
  rcases List.mem_append.1 this with h1 | h1
  · exact h d h1
  · rw [(List.mem_replicate.1 h1).2]; decide
theorem wideL_succ (b : List Nat) (K : Nat) : wideL b (K + 1) = wideL b K ++ [b.getD K 0] := by
  unfold wideL
  have h1 : K < (b ++ List.replicate (K + 1) 0).length := by rw [List.length_append, List.length_replicate]; omega
  rw [List.take_succ_eq_append_getElem h1]
  congr 1
  · rcases Nat.lt_or_ge K b.length with h | h
    · rw [List.take_append_of_le_length (by omega), List.take_append_of_le_length (by omega)]
    · rw [List.take_append, List.take_append, List.take_replicate, List.take_replicate]
      congr 2
      omega
  · congr 1
    rcases Nat.lt_or_ge K b.length with h | h
    · rw [List.getElem_append_left h]
      simp [List.getD, List.getElem?_eq_getElem h]
    · rw [List.getElem_append_right h]
      simp [List.getD, List.getElem?_eq_none h]

end Go.Proofs.Ytbhpcpcpccmacaa

namespace Go.Proofs.Ytbhpcpcpccmacaa
open Go.RowKit Go.Shelf

theorem wpList_append_want {P : Program} {w : World} {ops : Array Oper} {rest : List Oper} {o : Oper} {a : Act} {Q : Exit → Act → World → Prop} (hw : Region.wanted o (yielded ops a.tmps) = true) (s x : Operand) (t : TypeId)
    (ho : o.op = .call { callee := .builtin .append, args := #[s, x], argTypes := #[t, t] })
    (e : TypeId) (z : Value) (size bytes : Nat) (ht : P.underlying t = some (.slice e)) (hinfo : (P.info? e).map (fun i => (i.zero, i.size, i.bytes)) = some (some z, size, bytes)) (hzs : z.cells.size = size) (hsz : 0 < size)
    (v : Value) (n : Nat) (xs : List Value) {R : List HP} (hs : a.eval s = v) (H : Sep w (HP.row e size v n xs :: R))
    (sv : Value) (m : Nat) (hm : m ≠ 0) (news : List Value) (hx : a.eval x = sv) (hrd : RdS w sv m size news) (h1 : ∀ u ∈ news, u.oneCell' = true)
    (h63 : n + m ≤ maxLen) (hbytes : (n + m) * bytes ≤ 140737488355328)
    (h : ∀ v' w', Sep w' (HP.row e size v' (n + m) (xs ++ news) :: R) → wpList P ops Q rest (a.put o.dst v') w') : wpList P ops Q (o :: rest) a w := by
  obtain ⟨i, hi, hz, hs1, hb⟩ := info_parts hinfo
  rcases hrd.2 with ⟨-, h0⟩ | ⟨ad, cap, rfl, hh⟩
  · exact absurd h0 hm
  · refine wpList_step fun K hK => ?_
    rw [if_pos hw]
    exact wp_append_sep s x t ho e i z size bytes ht hi hz hs1 hb hzs hsz v n xs hs H ad m cap news hx hrd.1 hh h1 h63 hbytes fun v' w' h2 => hK _ _ (h v' w' h2)
theorem digs_zero_cons {k L : Nat} (h : L < 256 ^ k) : digs (1 + k) L = 0 :: digs k L := by
  rw [digs_add 1 k, Nat.div_eq_of_lt h]; rfl
theorem valD_cons_zero (l : List Nat) : valD (0 :: l) = valD l := by
  have := valD_append [0] l
  rw [show valD [0] = 0 by rfl, Nat.zero_mul, Nat.zero_add] at this
  exact this
/-- Does a number of so many digits lie in an interval? -/
def InI (x : Nat × Nat × Nat) (b : List Nat) : Prop := x.2.1 ≤ valD (wideL b (x.1 + 4)) ∧ valD (wideL b (x.1 + 4)) < x.2.1 + x.2.2
instance (x : Nat × Nat × Nat) (b : List Nat) : Decidable (InI x b) := by unfold InI; exact inferInstance

end Go.Proofs.Ytbhpcpcpccmacaa
