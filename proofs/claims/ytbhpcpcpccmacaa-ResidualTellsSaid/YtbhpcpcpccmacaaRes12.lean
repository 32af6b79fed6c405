/- residual: what unclass reads: plain; make of elements of three cells. -/
import Derived.Test.YtbhpcpcpccmacaaRes11
namespace Go.Proofs.Ytbhpcpcpccmacaa
open Go.RowKit Go.Shelf

/-- Are these bytes the row's classed ones? -/
def Cnd (n : Nat) (b xs : List Nat) : Prop := Fine xs ∧ xs.length = n * 3 ∧ pk (longN (rcls xs).length ++ allBits (rcls xs) ++ rowR xs) = b
theorem cnd_bits {n : Nat} {b xs : List Nat} (hn : n ≤ 4096) (h : Cnd n b xs) : (∃ y, allBits b = longN (rcls xs).length ++ (allBits (rcls xs) ++ (rowR xs ++ y))) ∧ (rcls xs).length ≤ 8000 ∧ (rcls xs).length ≤ b.length := by
  obtain ⟨h1, h2, h3⟩ := h
  have hm1 := rcls_le xs
  have hm : (rcls xs).length ≤ 8000 := by omega
  have hr := rowR_le h1
  have hs : sizeN (rcls xs).length ≤ 65 := by
    have := halfN_le (n := (rcls xs).length) (by omega)
    unfold sizeN
    omega
  have hl : (longN (rcls xs).length ++ allBits (rcls xs) ++ rowR xs).length ≤ 600000 := by
    rw [List.length_append, List.length_append, longN_length, allBits_length]; omega
  obtain ⟨y, hy⟩ := allBits_pk (l := longN (rcls xs).length ++ allBits (rcls xs) ++ rowR xs) (by omega)
  refine ⟨⟨y, by rw [← h3, hy, List.append_assoc, List.append_assoc]⟩, hm, ?_⟩
  rw [← h3, pk_length, List.length_append, List.length_append, longN_length, allBits_length]
  unfold sizeN
  omega
theorem cnd_many {n : Nat} {b xs : List Nat} (hn : n ≤ 4096) (h : Cnd n b xs) : getN (allBits b) = ((rcls xs).length, sizeN (rcls xs).length, 0) := by
  obtain ⟨⟨y, hy⟩, hm, -⟩ := cnd_bits hn h
  rw [hy]
  exact getN_long (by omega) _
/-- The classes' bytes read so far are the row's first ones. -/
def Rows (n : Nat) (b : List Nat) (many : Nat) (rows : List Nat) (j : Nat) : Prop := ∀ xs, Cnd n b xs → many = (rcls xs).length ∧ rows = (rcls xs).take rows.length ∧ j = sizeN many + 8 * rows.length
theorem rows_next {n many j : Nat} {b rows : List Nat} (hn : n ≤ 4096) (h : Rows n b many rows j) (hk : rows.length < many) :
    ∀ xs, Cnd n b xs → j + 8 ≤ (allBits b).length ∧ (rcls xs)[rows.length]? = some (ofBits (((allBits b).drop j).take 8)) := by
  intro xs hc
  obtain ⟨h1, h2, h3⟩ := h xs hc
  obtain ⟨⟨y, hy⟩, hm, -⟩ := cnd_bits hn hc
  have hlt : rows.length < (rcls xs).length := by omega
  have hd := rcls_lt xs _ (List.getElem_mem hlt)
  have hal : allBits (rcls xs) = allBits ((rcls xs).take rows.length) ++ (valBits (rcls xs)[rows.length] 8 ++ allBits ((rcls xs).drop (rows.length + 1))) := by
    have hsp : rcls xs = (rcls xs).take rows.length ++ ((rcls xs)[rows.length] :: (rcls xs).drop (rows.length + 1)) := by rw [← List.drop_eq_getElem_cons hlt, List.take_append_drop]
    conv => lhs; rw [hsp]
    rw [allBits_append, allBits_cons]
  have htl : (allBits ((rcls xs).take rows.length)).length = 8 * rows.length := by rw [allBits_length, List.length_take]; omega
  rw [hy, hal]
  constructor
  · rw [h3]
    simp only [List.length_append, longN_length, valBits_length, htl]
    rw [h1]
    omega
  · rw [List.getElem?_eq_getElem hlt]
    congr 1
    rw [h3, ← List.drop_drop, h1, List.drop_left' (longN_length _), List.append_assoc, List.drop_left' htl, List.append_assoc, List.take_left' (valBits_length _ _), ofBits_valBits _ _ (by omega)]
theorem rows_step {n many j v : Nat} {b rows : List Nat} (hn : n ≤ 4096) (h : Rows n b many rows j) (hk : rows.length < many) (hv : ofBits (((allBits b).drop j).take 8) = v) : Rows n b many (rows ++ [v]) (j + 8) := by
  intro xs hc
  obtain ⟨h1, h2, h3⟩ := h xs hc
  obtain ⟨-, h4⟩ := rows_next hn h hk xs hc
  rw [hv] at h4
  obtain ⟨hlt, hx⟩ := List.getElem?_eq_some_iff.1 h4
  refine ⟨h1, ?_, by rw [List.length_append, List.length_singleton]; omega⟩
  rw [List.length_append, List.length_singleton, List.take_succ_eq_append_getElem hlt, hx, ← h2]
/-- The numbers read so far are the row's first ones. -/
def Nums (n : Nat) (b : List Nat) (out : List Nat) (j : Nat) : Prop := ∀ xs, Cnd n b xs → out = xs.take out.length ∧ j = sizeN (rcls xs).length + 8 * (rcls xs).length + (rowR (xs.take out.length)).length
theorem nums_rest {n j : Nat} {b out xs : List Nat} (hn : n ≤ 4096) (h : Nums n b out j) (hk : out.length < n * 3) (hc : Cnd n b xs) : ∃ x y, xs[out.length]? = some x ∧ x ≤ 4194304 ∧ (allBits b).drop j = restB x ++ y ∧ j ≤ (allBits b).length := by
  obtain ⟨h1, h2⟩ := h xs hc
  obtain ⟨⟨y, hy⟩, hm, -⟩ := cnd_bits hn hc
  obtain ⟨c1, c2, -⟩ := hc
  have hlt : out.length < xs.length := by omega
  have hsp : xs = xs.take out.length ++ (xs[out.length] :: xs.drop (out.length + 1)) := by rw [← List.drop_eq_getElem_cons hlt, List.take_append_drop]
  have hrr : rowR xs = rowR (xs.take out.length) ++ (restB xs[out.length] ++ rowR (xs.drop (out.length + 1))) := by
    conv => lhs; rw [hsp]
    rw [rowR_append]
    rfl
  refine ⟨xs[out.length], rowR (xs.drop (out.length + 1)) ++ y, List.getElem?_eq_getElem hlt, c1 _ (List.getElem_mem hlt), ?_, ?_⟩
  · rw [hy, hrr, h2, ← List.drop_drop, ← List.drop_drop, List.drop_left' (longN_length _), List.drop_left' (allBits_length _), List.append_assoc, List.drop_left' rfl, List.append_assoc]
  · rw [hy, hrr, h2]
    simp only [List.length_append, longN_length, allBits_length]
    omega
theorem nums_short {n j k : Nat} {b out : List Nat} (hn : n ≤ 4096) (h : Nums n b out j) (hk : out.length < n * 3) (hcl : ∀ xs, Cnd n b xs → (xs.map Lib.bitLen)[out.length]? = some k) (hk1 : k ≤ 1) : Nums n b (out ++ [k]) j := by
  intro xs hc
  obtain ⟨h1, h2⟩ := h xs hc
  obtain ⟨x, y, hx, hx4, -, -⟩ := nums_rest hn h hk hc
  have hb := hcl xs hc
  rw [List.getElem?_map, hx] at hb
  simp only [Option.map_some, Option.some.injEq] at hb
  have hxk : x = k := by rw [← hb]; exact bitLen_one hx4 (by omega)
  obtain ⟨hlt, hxe⟩ := List.getElem?_eq_some_iff.1 hx
  have ht : xs.take (out.length + 1) = xs.take out.length ++ [x] := by rw [List.take_succ_eq_append_getElem hlt, hxe]
  rw [List.length_append, List.length_singleton, ht, rowR_snoc, restB_short (by omega), List.append_nil, ← h2, ← h1, hxk]
  exact ⟨rfl, rfl⟩
theorem nums_long {n j e : Nat} {b out : List Nat} (hn : n ≤ 4096) (h : Nums n b out j) (hk : out.length < n * 3) (he : 1 ≤ e) (hcl : ∀ xs, Cnd n b xs → (xs.map Lib.bitLen)[out.length]? = some (e + 1)) :
    (∀ xs, Cnd n b xs → j + e ≤ (allBits b).length) ∧ ∀ V, ofBits (((allBits b).drop j).take e) = V → Nums n b (out ++ [2 ^ e + V]) (j + e) := by
  have key : ∀ xs, Cnd n b xs → ∃ x y, xs[out.length]? = some x ∧ x ≤ 4194304 ∧ Lib.bitLen x = e + 1 ∧ (allBits b).drop j = restB x ++ y ∧ j ≤ (allBits b).length := fun xs hc => by
    obtain ⟨x, y, hx, hx4, hd, hj⟩ := nums_rest hn h hk hc
    have hb := hcl xs hc
    rw [List.getElem?_map, hx] at hb
    simp only [Option.map_some, Option.some.injEq] at hb
    exact ⟨x, y, hx, hx4, hb, hd, hj⟩
  constructor
  · intro xs hc
    obtain ⟨x, y, hx, hx4, hb, hd, hj⟩ := key xs hc
    have hl := congrArg List.length hd
    rw [List.length_drop, List.length_append, restB_length, hb] at hl
    omega
  · intro V hV xs hc
    obtain ⟨h1, h2⟩ := h xs hc
    obtain ⟨x, y, hx, hx4, hb, hd, hj⟩ := key xs hc
    obtain ⟨r1, r2, r3⟩ := restB_sub hx4 (by omega)
    rw [hb, Nat.add_sub_cancel] at r1 r2 r3
    have hxV : x = 2 ^ e + V := by
      rw [hd, List.take_left' (by rw [restB_length, hb]; rfl), ← r3, ofBits_valBits _ _ r1] at hV
      omega
    obtain ⟨hlt, hxe⟩ := List.getElem?_eq_some_iff.1 hx
    have ht : xs.take (out.length + 1) = xs.take out.length ++ [x] := by rw [List.take_succ_eq_append_getElem hlt, hxe]
    rw [List.length_append, List.length_singleton, ht, rowR_snoc, List.length_append, restB_length, hb, ← h1, ← hxV]
    refine ⟨rfl, ?_⟩
    rw [h2]
    rw [← h1]
    omega

theorem madeCells_three (z : Value) (n : Nat) : (madeCells #[z, z, z] (n * 3)).toList = List.replicate (n * 3) z := by
  apply List.ext_getElem?
  intro i
  simp only [madeCells]
  by_cases h : i < n * 3
  · have e : i % 3 = 0 ∨ i % 3 = 1 ∨ i % 3 = 2 := by omega
    rcases e with e | e | e <;> simp [h, e]
  · simp [h]
theorem wpList_make_three {P : Program} {w : World} {ops : Array Oper} {rest : List Oper} {o : Oper} {a : Act} {Q : Exit → Act → World → Prop}
    (hg : o.guard = none) (l c : Operand) (t : TypeId) (hop : o.op = Op.makeSlice t l c)
    (e : TypeId) (z : Value) (bytes : Nat) (ht : P.underlying t = some (.slice e)) (hinfo : (P.info? e).map (fun i => (i.zero, i.size, i.bytes)) = some (some (.agg #[z, z, z]), 3, bytes))
    {R : List HP} (H : Sep w R)
    (kl kc : IntKind) (L C : Int) (n : Nat) (hl : a.eval l = .int kl L) (hc : a.eval c = .int kc C) (hL : L = (n : Int)) (hC : C = (n : Int)) (b2 : bytes * n ≤ 281474976710656) (b3 : n ≤ maxLen)
    (hK : ∀ g w', Sep w' (HP.row e 3 (.slice (some ⟨g, 0, none⟩) n n) n (List.replicate (n * 3) z) :: R) → wpList P ops Q rest (a.put o.dst (.slice (some ⟨g, 0, none⟩) n n)) w') :
    wpList P ops Q (o :: rest) a w := by
  obtain ⟨i, hi, hz2, hs, hb⟩ := info_parts hinfo
  subst hb
  refine wpList_make_full w hg l c t hop w.heap.size e i (.agg #[z, z, z]) 3 ht hi hz2 hs kl kc L C n hl hc hL hC b2 b3 (Nat.le_refl _) fun w' h1 h2 => hK _ w' ?_
  have hzc : (Value.agg #[z, z, z]).cells = #[z, z, z] := rfl
  rw [hzc, madeCells_three] at h1
  have h1' : w'.ownsRow 0 e 3 (.slice (some ⟨w.heap.size, 0, none⟩) n n) n (List.replicate (n * 3) z) := by
    obtain ⟨k1, k2⟩ := h1
    refine ⟨k1, ?_⟩
    rcases k2 with k2 | ⟨g, cap, cur, k3, k4, k5⟩
    · exact .inl k2
    · exact .inr ⟨g, cap, cur, k3, Nat.zero_le _, k5⟩
  exact Sep.grown (H.row_nil e 3) h1' (by simpa [Value.ownBlock] using h2) fun k hk => .inr (by simp [Value.ownBlock] at hk; omega)
theorem Sep.row_setn {w : World} {e : TypeId} {size g n cap : Nat} {xs : List Value} {L : List HP} (h : Sep w (HP.row e size (.slice (some ⟨g, 0, none⟩) n cap) n xs :: L)) (hn : n ≠ 0) (i : Nat) (u : Value) :
    Sep (w.setCell ⟨g, i, none⟩ u) (HP.row e size (.slice (some ⟨g, 0, none⟩) n cap) n (xs.set i u) :: L) := by
  obtain ⟨g', cap', cur, he, h1, h2, h3, h4, h5⟩ := h.row_open hn
  simp only [Value.slice.injEq, Option.some.injEq, Addr.mk.injEq, and_true, true_and] at he
  obtain ⟨rfl, rfl⟩ := he
  refine Sep.row_shut (h5.set i u) h1 h2 (by simpa using h3) ?_
  rw [← h4, Array.toList_setIfInBounds, List.take_set]
theorem Sep.row_celln {w : World} {e : TypeId} {size g n cap : Nat} {xs : List Value} {L : List HP} (h : Sep w (HP.row e size (.slice (some ⟨g, 0, none⟩) n cap) n xs :: L)) (i : Nat) {u : Value} (hu : xs[i]? = some u) : w.cell? ⟨g, i, none⟩ = some u := by
  have := h.owns.cells (g := g) rfl i u hu
  rwa [addr_add, Nat.zero_add] at this

end Go.Proofs.Ytbhpcpcpccmacaa
