/- More laws said of 'Sep': make, a store into an owned row. No program in sight. -/
import Derived.Test.YtglinpclcmmnbaaSepLaws
namespace Go.Proofs.Ytglinpclcmmnbaa
open Go.RowKit

theorem madeCells_one (z : Value) (n : Nat) : (madeCells #[z] (n * 1)).toList = List.replicate n z := by
  apply List.ext_getElem?
  intro i
  simp only [madeCells, Nat.mul_one]
  by_cases h : i < n
  · have e : i % 1 = 0 := by omega
    simp [h, e]
  · simp [h]

theorem wpList_make_sep {P : Program} {w : World} {ops : Array Oper} {rest : List Oper} {o : Oper} {a : Act} {Q : Exit → Act → World → Prop}
    (hg : o.guard = none) (l c : Operand) (t : TypeId) (hop : o.op = Op.makeSlice t l c)
    (e : TypeId) (z : Value) (bytes : Nat) (ht : P.underlying t = some (.slice e)) (hinfo : (P.info? e).map (fun i => (i.zero, i.size, i.bytes)) = some (some z, 1, bytes)) (hz : z.cells = #[z])
    {R : List HP} (H : Sep w R)
    (kl kc : IntKind) (L C : Int) (n : Nat) (hl : a.eval l = .int kl L) (hc : a.eval c = .int kc C) (hL : L = (n : Int)) (hC : C = (n : Int)) (b2 : bytes * n ≤ 281474976710656) (b3 : n ≤ maxLen)
    (hK : ∀ g w', Sep w' (HP.row e 1 (.slice (some ⟨g, 0, none⟩) n n) n (List.replicate n z) :: R) → wpList P ops Q rest (a.put o.dst (.slice (some ⟨g, 0, none⟩) n n)) w') :
    wpList P ops Q (o :: rest) a w := by
  obtain ⟨i, hi, hz2, hs, hb⟩ := info_parts hinfo
  subst hb
  refine wpList_make_full w hg l c t hop w.heap.size e i z 1 ht hi hz2 hs kl kc L C n hl hc hL hC b2 b3 (Nat.le_refl _) fun w' h1 h2 => hK _ w' ?_
  rw [hz, madeCells_one] at h1
  have h1' : w'.ownsRow 0 e 1 (.slice (some ⟨w.heap.size, 0, none⟩) n n) n (List.replicate n z) := by
    obtain ⟨k1, k2⟩ := h1
    refine ⟨k1, ?_⟩
    rcases k2 with k2 | ⟨g, cap, cur, k3, k4, k5⟩
    · exact .inl k2
    · exact .inr ⟨g, cap, cur, k3, Nat.zero_le _, k5⟩
  exact Sep.grown (H.row_nil e 1) h1' (by simpa [Value.ownBlock] using h2) fun k hk => .inr (by simp [Value.ownBlock] at hk; omega)

/-- The cells of an owned row of one-cell elements, for the walk. -/
theorem Sep.row_cell {w : World} {e : TypeId} {g n cap : Nat} {xs : List Value} {L : List HP} (h : Sep w (HP.row e 1 (.slice (some ⟨g, 0, none⟩) n cap) n xs :: L)) (i : Nat) {u : Value} (hu : xs[i]? = some u) : w.cell? ⟨g, i, none⟩ = some u := by
  have := h.owns.cells (g := g) rfl i u hu
  rwa [addr_add, Nat.zero_add] at this

theorem Sep.row_froz {w : World} {e : TypeId} {size : Nat} {g n cap : Nat} {xs : List Value} {L : List HP} (h : Sep w (HP.row e size (.slice (some ⟨g, 0, none⟩) n cap) n xs :: L)) (i : Nat) : w.frozen? ⟨g, i, none⟩ = false := by
  rcases h.owns.2 with ⟨h0, _⟩ | ⟨g', cap', cur, h1, _, h3, _⟩
  · cases h0
  · simp only [Value.slice.injEq, Option.some.injEq, Addr.mk.injEq] at h1
    obtain ⟨⟨rfl, _, _⟩, _, _⟩ := h1
    simp [World.frozen?, h3]

/-- A store into an owned row. -/
theorem Sep.row_set {w : World} {e : TypeId} {g n cap : Nat} {xs : List Value} {L : List HP} (h : Sep w (HP.row e 1 (.slice (some ⟨g, 0, none⟩) n cap) n xs :: L)) (i : Nat) (u : Value) :
    Sep (w.setCell ⟨g, i, none⟩ u) (HP.row e 1 (.slice (some ⟨g, 0, none⟩) n cap) n (xs.set i u) :: L) := by
  by_cases hn : n = 0
  · subst hn
    have hx : xs = [] := List.eq_nil_of_length_eq_zero (by simpa using h.row_length)
    subst hx
    refine Sep.upd (L := [HP.row e 1 (.slice (some ⟨g, 0, none⟩) 0 cap) 0 []]) (L' := [HP.row e 1 (.slice (some ⟨g, 0, none⟩) 0 cap) 0 []]) (R := L) h rfl rfl rfl (by simp [World.setCell]) fun S hS => ?_
    rw [SepOn.one] at hS
    refine ⟨fun k hk hn => Below.heap_setCell _ _ _ _ (fun e => hn ((hS.1 k).2 (by simp [Value.ownBlock, e]))), S, SepOn.one.2 ⟨hS.1, hS.2.1, ?_⟩, fun k hk => .inl hk⟩
    rcases hS.2.2 with ⟨h0, _⟩ | ⟨g', cap', cur, h1, h2, h3, h4, h5, h6, h7⟩
    · cases h0
    · simp only [Value.slice.injEq, Option.some.injEq, Addr.mk.injEq, and_true, true_and] at h1
      obtain ⟨rfl, rfl⟩ := h1
      exact .inr ⟨g, cap, cur.setIfInBounds i u, rfl, h2, by simp [World.setCell, Array.getElem?_modify, h3], h4, h5, by simpa using h6, by simp⟩
  · obtain ⟨g', cap', cur, he, h1, h2, h3, h4, h5⟩ := h.row_open hn
    simp only [Value.slice.injEq, Option.some.injEq, Addr.mk.injEq, and_true, true_and] at he
    obtain ⟨rfl, rfl⟩ := he
    refine Sep.row_shut (h5.set i u) h1 h2 (by simpa using h3) ?_
    rw [← h4, Array.toList_setIfInBounds, List.take_set]

/-- A readable slice that has an element is not nil, and its address is a cell's. -/
theorem RdS.open {w : World} {v : Value} {n size : Nat} {xs : List Value} (h : RdS w v n size xs) (hn : n ≠ 0) (hs : 0 < size := by decide) : ∃ g o cap, v = .slice (some ⟨g, o, none⟩) n cap := by
  rcases h.2 with ⟨_, h0⟩ | ⟨ad, cap, he, hh⟩
  · exact absurd h0 hn
  · have hl : 0 < xs.length := by rw [h.1]; exact Nat.mul_pos (Nat.pos_of_ne_zero hn) hs
    have hc := hh 0 xs[0] (List.getElem?_eq_getElem hl)
    obtain ⟨g, o, sp⟩ := ad
    have e0 : (⟨g, o, sp⟩ : Addr).add 0 = ⟨g, o, sp⟩ := rfl
    rw [e0] at hc
    cases sp with
    | none => exact ⟨g, o, cap, he⟩
    | some s =>
      exfalso
      unfold World.cell? at hc
      split at hc
      · simp at hc
      · cases hc

/-- The elements of a slice, read-only, cell by cell. -/
theorem RdS.cell {w : World} {g o cap n size : Nat} {xs : List Value} (h : RdS w (.slice (some ⟨g, o, none⟩) n cap) n size xs) (i : Nat) {u : Value} (hu : xs[i]? = some u) : w.cell? ⟨g, o + i, none⟩ = some u := by
  rcases h.2 with ⟨h0, _⟩ | ⟨ad, cap', he, hh⟩
  · cases h0
  · simp only [Value.slice.injEq, Option.some.injEq, true_and] at he
    obtain ⟨rfl, rfl⟩ := he
    have := hh i u hu
    rwa [addr_add] at this

#print axioms Sep.row_set
end Go.Proofs.Ytglinpclcmmnbaa
