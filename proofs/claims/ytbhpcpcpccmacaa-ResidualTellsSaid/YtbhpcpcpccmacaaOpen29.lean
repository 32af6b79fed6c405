/- Arguments of chapter 29 that came in: points, residuals, rows of residuals. -/
import Derived.Test.YtbhpcpcpccmacaaRes2
import Derived.Laws.IdiomArrays
import Derived.Deep.Slices
import Derived.Deep.Fields
import Derived.ChangeSame
namespace Go.Proofs.Ytbhpcpcpccmacaa
open Go.RowKit Go.ChangeShapes Go.WideShapes Go.Deep

/-- A row of residuals that came in: its numbers, three an element. -/
def TripRow (w : World) (v : Value) (xs : List Nat) : Prop := ∃ n, xs.length = n * 3 ∧ (∀ x ∈ xs, x ≤ 18446744073709551615) ∧ RdS w v n 3 (xs.map uv)
theorem cells_a : Try.prog.cellsOf 29 = 3 := by kernel_rfl
theorem cells_u : Try.prog.cellsOf 25 = 1 := by kernel_rfl
theorem cells_p : Try.prog.cellsOf 23 = 3 := by kernel_rfl
theorem cells_i : Try.prog.cellsOf 3 = 1 := by kernel_rfl
theorem l_three {α : Type} (l : List α) (h : l.length = 3) : ∃ a b c, l = [a, b, c] := by
  match l, h with
  | [a, b, c], _ => exact ⟨a, b, c, rfl⟩

set_option maxRecDepth 100000 in
theorem open_trip {H : Type} {enc : TypeId × Value → H} {w : World} {base b0 : Nat} {spare : Nat → Bool} {held : Bool} {r : Reach} {v : Value} {d : DataW H} {p : List MemPlace}
    (hv : Value.okWide Try.prog w r b0 30 v) (h : DataW.Trod enc Try.prog w base spare held 30 v d p) : ∃ xs, TripRow w v xs := by
  obtain ⟨a, len, cap, rfl⟩ := okWide_slice Try.underlying30 hv
  obtain ⟨fuel, hf⟩ := h
  rcases open_slice Try.underlying30 hf with ⟨hcs, _⟩ | ⟨ad, len', cap', m, n, D, Pl, hcs, _, hl, hm, hmm, _, hi⟩
  · simp [Value.cells] at hcs
    obtain ⟨rfl, rfl, rfl⟩ := hcs
    exact ⟨[], 0, rfl, by simp, rfl, .inl ⟨rfl, rfl⟩⟩
  · simp [Value.cells] at hcs
    obtain ⟨rfl, rfl, rfl⟩ := hcs
    have hlm : len ≤ m := by rw [hmm]; split <;> omega
    have hx : ∀ j : Nat, ∃ x : Nat, j < len * 3 → x ≤ 18446744073709551615 ∧ w.cell? (ad.add j) = some (.int .u64 (x : Int)) := by
      intro j
      by_cases hlt : j < len * 3
      · obtain ⟨cs, hcc, htr⟩ := hi (j / 3) (by omega)
        obtain ⟨_, hl2, hcell⟩ := World.cells?_some hcc
        rw [cells_a] at hl2 hcell
        obtain ⟨c0, c1, c2, rfl⟩ := l_three cs hl2
        obtain ⟨y0, y1, y2, n', _, t0, t1, t2⟩ := trod_array3 Try.underlying29 cells_u htr
        obtain ⟨z0, e0, _, w0⟩ := DataW.trod_int Try.underlying25 t0
        obtain ⟨z1, e1, _, w1⟩ := DataW.trod_int Try.underlying25 t1
        obtain ⟨z2, e2, _, w2⟩ := DataW.trod_int Try.underlying25 t2
        simp at e0 e1 e2
        subst e0 e1 e2
        have f0 := wf_u64 w0
        have f1 := wf_u64 w1
        have f2 := wf_u64 w2
        have k0 := hcell 0 (by omega)
        have k1 := hcell 1 (by omega)
        have k2 := hcell 2 (by omega)
        rw [add_add] at k0 k1 k2
        rcases (by omega : j % 3 = 0 ∨ j % 3 = 1 ∨ j % 3 = 2) with hj | hj | hj
        · refine ⟨z0.toNat, fun _ => ⟨by omega, ?_⟩⟩
          rw [show j / 3 * 3 + 0 = j by omega] at k0
          rw [Int.toNat_of_nonneg f0.1]
          exact k0
        · refine ⟨z1.toNat, fun _ => ⟨by omega, ?_⟩⟩
          rw [show j / 3 * 3 + 1 = j by omega] at k1
          rw [Int.toNat_of_nonneg f1.1]
          exact k1
        · refine ⟨z2.toNat, fun _ => ⟨by omega, ?_⟩⟩
          rw [show j / 3 * 3 + 2 = j by omega] at k2
          rw [Int.toNat_of_nonneg f2.1]
          exact k2
      · exact ⟨0, fun h => absurd h hlt⟩
    refine ⟨(List.range (len * 3)).map fun j => Classical.choose (hx j), len, by simp, ?_, ?_⟩
    · intro x hxm
      simp only [List.mem_map, List.mem_range] at hxm
      obtain ⟨j, hjl, rfl⟩ := hxm
      exact (Classical.choose_spec (hx j) hjl).1
    · refine ⟨by simp, .inr ⟨ad, cap, rfl, fun j u hu => ?_⟩⟩
      have hj : j < len * 3 := by
        apply Classical.byContradiction
        intro hn
        rw [List.getElem?_eq_none (by simp; omega)] at hu
        cases hu
      have hs := (Classical.choose_spec (hx j) hj).2
      rw [hs]
      rw [List.getElem?_map, List.getElem?_map, List.getElem?_range hj] at hu
      simp only [Option.map_some, Option.some.injEq] at hu
      rw [← hu]
      rfl
/-- A residual that came in. -/
def ResArg (_ : World) (v : Value) (r : List Nat) : Prop := v = rv r ∧ r.length = 3 ∧ ∀ x ∈ r, x ≤ 18446744073709551615
set_option maxRecDepth 100000 in
theorem open_res {H : Type} {enc : TypeId × Value → H} {w : World} {base b0 : Nat} {spare : Nat → Bool} {held : Bool} {r : Reach} {v : Value} {d : DataW H} {p : List MemPlace}
    (hv : Value.okWide Try.prog w r b0 29 v) (h : DataW.Trod enc Try.prog w base spare held 29 v d p) : ∃ xs, ResArg w v xs := by
  obtain ⟨cs, rfl, hsz, _⟩ : ∃ cs, v = .agg cs ∧ cs.size = Try.prog.cellsOf 29 ∧ Row.okWide Try.prog w r b0 29 cs := by
    simpa [Value.okWide, Try.underlying29] using hv
  rw [cells_a] at hsz
  obtain ⟨l⟩ := cs
  obtain ⟨c0, c1, c2, rfl⟩ := l_three l hsz
  obtain ⟨fuel, hf⟩ := h
  obtain ⟨y0, y1, y2, n', _, t0, t1, t2⟩ := trod_array3 Try.underlying29 cells_u hf
  obtain ⟨z0, e0, _, w0⟩ := DataW.trod_int Try.underlying25 t0
  obtain ⟨z1, e1, _, w1⟩ := DataW.trod_int Try.underlying25 t1
  obtain ⟨z2, e2, _, w2⟩ := DataW.trod_int Try.underlying25 t2
  simp at e0 e1 e2
  subst e0 e1 e2
  have f0 := wf_u64 w0
  have f1 := wf_u64 w1
  have f2 := wf_u64 w2
  refine ⟨[z0.toNat, z1.toNat, z2.toNat], ?_, rfl, fun x hx => by simp at hx; omega⟩
  have g0 := Int.toNat_of_nonneg f0.1
  have g1 := Int.toNat_of_nonneg f1.1
  have g2 := Int.toNat_of_nonneg f2.1
  show _ = Value.agg #[.int .u64 ((z0.toNat : Nat) : Int), .int .u64 ((z1.toNat : Nat) : Int), .int .u64 ((z2.toNat : Nat) : Int)]
  rw [g0, g1, g2]
/-- A point that came in. -/
def PntArg (_ : World) (v : Value) (p : List Int) : Prop := v = pv p ∧ p.length = 3
set_option maxRecDepth 100000 in
theorem open_pnt {H : Type} {enc : TypeId × Value → H} {w : World} {base b0 : Nat} {spare : Nat → Bool} {held : Bool} {r : Reach} {v : Value} {d : DataW H} {p : List MemPlace}
    (hv : Value.okWide Try.prog w r b0 23 v) (h : DataW.Trod enc Try.prog w base spare held 23 v d p) : ∃ xs, PntArg w v xs := by
  obtain ⟨cs, rfl, hsz, _⟩ : ∃ cs, v = .agg cs ∧ cs.size = Try.prog.cellsOf 23 ∧ Row.okWide Try.prog w r b0 23 cs := by
    simpa [Value.okWide, Try.underlying23] using hv
  rw [cells_p] at hsz
  obtain ⟨l⟩ := cs
  obtain ⟨c0, c1, c2, rfl⟩ := l_three l hsz
  obtain ⟨fuel, hf⟩ := h
  obtain ⟨y0, y1, y2, n', _, t0, t1, t2⟩ := trod_array3 Try.underlying23 cells_i hf
  obtain ⟨z0, e0, _, w0⟩ := DataW.trod_int Try.underlying3 t0
  obtain ⟨z1, e1, _, w1⟩ := DataW.trod_int Try.underlying3 t1
  obtain ⟨z2, e2, _, w2⟩ := DataW.trod_int Try.underlying3 t2
  simp at e0 e1 e2
  subst e0 e1 e2
  exact ⟨[z0, z1, z2], rfl, rfl⟩

end Go.Proofs.Ytbhpcpcpccmacaa
