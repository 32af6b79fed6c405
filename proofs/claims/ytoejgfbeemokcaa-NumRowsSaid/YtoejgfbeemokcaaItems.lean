import Derived.Test.YtoejgfbeemokcaaFrame
import Derived.Deep.Slices
import Derived.Deep.Fields
import Derived.ChangeSame
namespace Go.Proofs.Ytoejgfbeemokcaa
open Go.RowKit Go.ChangeShapes Go.WideShapes Go.Deep

/-- A slice of structs of two integers that came in. -/
def PairRow (k0 k1 : IntKind) (w : World) (v : Value) (its : List (Int × Int)) : Prop :=
  its.length ≤ 9223372036854775807 ∧ (∀ x ∈ its, (Lit.int k0 x.1).wf = true ∧ (Lit.int k1 x.2).wf = true) ∧ RdS w v its.length 2 (its.flatMap fun x => [.int k0 x.1, .int k1 x.2])

theorem flat2_get (k0 k1 : IntKind) (its : List (Int × Int)) (i : Nat) (h : i < its.length) :
    (its.flatMap fun x => [Value.int k0 x.1, Value.int k1 x.2])[2 * i]? = some (.int k0 its[i].1) ∧ (its.flatMap fun x => [Value.int k0 x.1, Value.int k1 x.2])[2 * i + 1]? = some (.int k1 its[i].2) := by
  induction its generalizing i with
  | nil => simp at h
  | cons x its ih =>
    cases i with
    | zero => exact ⟨rfl, rfl⟩
    | succ i =>
      have hi : i < its.length := by simpa using h
      have := ih i hi
      simp only [List.flatMap_cons, List.getElem_cons_succ]
      have e1 : 2 * (i + 1) = (2 * i) + 2 := by omega
      rw [e1]
      exact this

theorem open_pairs {H : Type} {enc : TypeId × Value → H} {P : Program} {w : World} {base b0 : Nat} {spare : Nat → Bool} {held : Bool} {r : Reach} {t e : TypeId} {f0 f1 : Field} {k0 k1 : IntKind} {v : Value} {d : DataW H} {p : List MemPlace}
    (ht : P.underlying t = some (.slice e)) (he : P.underlying e = some (.struct #[f0, f1])) (hC : P.cellsOf e = 2) (o0 : f0.offset = 0) (o1 : f1.offset = 1) (c0 : P.cellsOf f0.type = 1) (c1 : P.cellsOf f1.type = 1)
    (u0 : P.underlying f0.type = some (.int k0)) (u1 : P.underlying f1.type = some (.int k1))
    (hv : Value.okWide P w r b0 t v) (h : DataW.Trod enc P w base spare held t v d p) : ∃ its, PairRow k0 k1 w v its := by
  obtain ⟨a, len, cap, rfl⟩ := okWide_slice ht hv
  obtain ⟨fuel, hf⟩ := h
  rcases open_slice ht hf with ⟨hcs, _⟩ | ⟨ad, len', cap', m, n, D, Pl, hcs, _, hl, hm, hmm, _, hi⟩
  · simp [Value.cells] at hcs
    obtain ⟨rfl, rfl, rfl⟩ := hcs
    exact ⟨[], by simp, by simp, rfl, .inl ⟨rfl, rfl⟩⟩
  · simp [Value.cells] at hcs
    obtain ⟨rfl, rfl, rfl⟩ := hcs
    have hlm : len ≤ m := by rw [hmm]; split <;> omega
    have hx : ∀ i : Nat, ∃ x : Int × Int, i < len → ((Lit.int k0 x.1).wf = true ∧ (Lit.int k1 x.2).wf = true) ∧ w.cell? (ad.add (2 * i)) = some (.int k0 x.1) ∧ w.cell? (ad.add (2 * i + 1)) = some (.int k1 x.2) := by
      intro i
      by_cases hlt : i < len
      · obtain ⟨cs, hcc, htr⟩ := hi i (by omega)
        obtain ⟨_, hl2, hcell⟩ := World.cells?_some hcc
        rw [hC] at hl2 hcell
        obtain ⟨y0, y1, n', _, _, t0, t1⟩ := trod_struct2 he htr
        rw [o0, c0] at t0
        rw [o1, c1] at t1
        match cs, hl2 with
        | [v0, v1], _ =>
          obtain ⟨z0, e0, _, w0⟩ := DataW.trod_int u0 t0
          obtain ⟨z1, e1, _, w1⟩ := DataW.trod_int u1 t1
          simp at e0 e1
          subst e0
          subst e1
          refine ⟨(z0, z1), fun _ => ⟨⟨w0, w1⟩, ?_, ?_⟩⟩
          · have := hcell 0 (by omega)
            rw [add_add, Nat.add_zero, Nat.mul_comm] at this
            exact this
          · have := hcell 1 (by omega)
            rw [add_add, Nat.mul_comm] at this
            exact this
      · exact ⟨(0, 0), fun h => absurd h hlt⟩
    refine ⟨(List.range len).map fun i => Classical.choose (hx i), by unfold maxLen at hm; simp; omega, ?_, ?_⟩
    · intro x hxm
      simp only [List.mem_map, List.mem_range] at hxm
      obtain ⟨i, hil, rfl⟩ := hxm
      exact (Classical.choose_spec (hx i) hil).1
    · generalize hits : ((List.range len).map fun i => Classical.choose (hx i)) = its
      have hlen : its.length = len := by rw [← hits]; simp
      refine ⟨?_, .inr ⟨ad, cap, by rw [hlen], fun j u hu => ?_⟩⟩
      · clear hits hlen
        induction its with
        | nil => rfl
        | cons x its ih => rw [List.flatMap_cons, List.length_append, ih]; simp; omega
      · have hj : j / 2 < its.length := by
          apply Classical.byContradiction
          intro hn
          have hfl : (its.flatMap fun x => [Value.int k0 x.1, Value.int k1 x.2]).length = 2 * its.length := by
            clear hits hlen hu hn
            induction its with
            | nil => rfl
            | cons x its ih => rw [List.flatMap_cons, List.length_append, ih]; simp; omega
          rw [List.getElem?_eq_none (by omega)] at hu
          cases hu
        have hget := flat2_get k0 k1 its (j / 2) hj
        have hspec := Classical.choose_spec (hx (j / 2)) (by omega)
        have hval : its[j / 2] = Classical.choose (hx (j / 2)) := by subst hits; simp
        rw [← hval] at hspec
        rcases Nat.mod_two_eq_zero_or_one j with h0 | h0
        · have e : 2 * (j / 2) = j := by omega
          rw [e] at hget hspec
          rw [hget.1] at hu
          rw [← hu]; exact hspec.2.1
        · have e : 2 * (j / 2) + 1 = j := by omega
          rw [e] at hget hspec
          rw [hget.2] at hu
          rw [← hu]; exact hspec.2.2

#print axioms open_pairs
end Go.Proofs.Ytoejgfbeemokcaa
