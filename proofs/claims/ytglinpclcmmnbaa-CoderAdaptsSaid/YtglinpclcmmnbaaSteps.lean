/- A slice of steps that came in. -/
import Derived.Test.YtglinpclcmmnbaaCod7
import Derived.Deep.Slices
import Derived.Deep.Fields
import Derived.ChangeSame
namespace Go.Proofs.Ytglinpclcmmnbaa
open Go.RowKit Go.ChangeShapes Go.WideShapes Go.Deep

def IntsOk (w : World) (v : Value) (cs : List Int) : Prop := RdS w v cs.length 1 (cs.map iv) ∧ ∀ x ∈ cs, -9223372036854775808 ≤ x ∧ x ≤ 9223372036854775807
theorem ints_cell {H : Type} {enc : TypeId × Value → H} {w : World} {base : Nat} {spare : Nat → Bool} {held : Bool} {fuel : Nat} {cs : List Value} {x : DataW H × List MemPlace}
    (h : DataW.trod enc Try.prog w base spare held fuel 22 cs = some x) : ∃ v zs, cs = [v] ∧ IntsOk w v zs := by
  rcases open_ints Try.underlying22 Try.underlying3 (by kernel_rfl) h with ⟨hcs, _⟩ | ⟨a, len, cap, zs, hcs, _, hl, hm, hz, _, hcell, hwz⟩
  · exact ⟨_, [], hcs, ⟨rfl, .inl ⟨rfl, rfl⟩⟩, fun x hx => by cases hx⟩
  · have hlz : len ≤ zs.length := by rw [hz]; split <;> omega
    have hlen : (zs.take len).length = len := by rw [List.length_take]; omega
    refine ⟨_, zs.take len, hcs, ⟨by simp, .inr ⟨a, cap, by rw [hlen], fun c u hu => ?_⟩⟩, fun x hx => wf_i64 (hwz x (List.mem_of_mem_take hx))⟩
    rw [List.getElem?_map, List.getElem?_take] at hu
    split at hu
    · have hc : c < zs.length := by omega
      rw [List.getElem?_eq_getElem hc] at hu
      simp only [Option.map_some, Option.some.injEq] at hu
      rw [hcell c hc, ← hu]
      simp [iv, List.getD, hc]
    · simp at hu
def StepOk (w : World) (p : Stp) : Prop := IntsOk w p.1 p.2.1 ∧ -9223372036854775808 ≤ p.2.2 ∧ p.2.2 ≤ 9223372036854775807
/-- A struct of a step. -/
theorem step_cells {H : Type} {enc : TypeId × Value → H} {w : World} {base : Nat} {spare : Nat → Bool} {held : Bool} {fuel : Nat} {cs : List Value} {x : DataW H × List MemPlace}
    (h : DataW.trod enc Try.prog w base spare held fuel 58 cs = some x) : ∃ p : Stp, cs = [p.1, .int .i64 p.2.2] ∧ StepOk w p := by
  obtain ⟨y0, y1, n', _, hl, t0, t1⟩ := trod_struct2 Try.underlying58 h
  rw [show Try.prog.cellsOf 58 = 2 by kernel_rfl] at hl
  match cs, hl with
  | [v0, v1], _ =>
    have t0' : DataW.trod enc Try.prog w base spare held n' 22 [v0] = some y0 := t0
    have t1' : DataW.trod enc Try.prog w base spare held n' 3 [v1] = some y1 := t1
    obtain ⟨v, zs, e0, h0⟩ := ints_cell t0'
    obtain ⟨z1, e1, _, w1⟩ := DataW.trod_int Try.underlying3 t1'
    simp at e0 e1
    subst e0
    subst e1
    exact ⟨(v0, zs, z1), rfl, h0, wf_i64 w1⟩

/-- A slice of steps. -/
def StpOk (w : World) (v : Value) (its : List Stp) : Prop := RdS w v its.length 2 (stpCells its) ∧ ∀ p ∈ its, StepOk w p
theorem stp_len (its : List Stp) : (stpCells its).length = its.length * 2 := by
  induction its with
  | nil => rfl
  | cons x its ih => simp only [stpCells, List.flatMap_cons, List.length_append] at ih ⊢; simp [ih]; omega
theorem open_steps {H : Type} {enc : TypeId × Value → H} {w : World} {base b0 : Nat} {spare : Nat → Bool} {held : Bool} {r : Reach} {v : Value} {d : DataW H} {p : List MemPlace}
    (hv : Value.okWide Try.prog w r b0 48 v) (h : DataW.Trod enc Try.prog w base spare held 48 v d p) : ∃ its, StpOk w v its := by
  obtain ⟨a, len, cap, rfl⟩ := okWide_slice Try.underlying48 hv
  obtain ⟨fuel, hf⟩ := h
  rcases open_slice Try.underlying48 hf with ⟨hcs, _⟩ | ⟨ad, len', cap', m, n, D, Pl, hcs, _, hl, hm, hmm, _, hi⟩
  · simp [Value.cells] at hcs
    obtain ⟨rfl, rfl, rfl⟩ := hcs
    exact ⟨[], ⟨rfl, .inl ⟨rfl, rfl⟩⟩, by simp⟩
  · simp [Value.cells] at hcs
    obtain ⟨rfl, rfl, rfl⟩ := hcs
    have hlm : len ≤ m := by rw [hmm]; split <;> omega
    have hx : ∀ i : Nat, ∃ q : Stp, i < len → StepOk w q ∧ w.cell? (ad.add (i * 2)) = some q.1 ∧ w.cell? (ad.add (i * 2 + 1)) = some (.int .i64 q.2.2) := by
      intro i
      by_cases hlt : i < len
      · obtain ⟨cs, hcc, htr⟩ := hi i (by omega)
        obtain ⟨_, hl2, hcell⟩ := World.cells?_some hcc
        rw [show Try.prog.cellsOf 58 = 2 by kernel_rfl] at hl2 hcell
        obtain ⟨q, rfl, hq⟩ := step_cells htr
        refine ⟨q, fun _ => ⟨hq, ?_, ?_⟩⟩
        · have := hcell 0 (by omega)
          rw [add_add, Nat.add_zero] at this
          exact this
        · have := hcell 1 (by omega)
          rw [add_add] at this
          exact this
      · exact ⟨(.slice none 0 0, [], 0), fun h => absurd h hlt⟩
    generalize hits : ((List.range len).map fun i => Classical.choose (hx i)) = its
    have hlen : its.length = len := by rw [← hits]; simp
    refine ⟨its, ⟨stp_len its, .inr ⟨ad, cap, by rw [hlen], fun j u hu => ?_⟩⟩, fun q hq => ?_⟩
    · have hj : j / 2 < its.length := by
        apply Classical.byContradiction
        intro hn
        have hfl := stp_len its
        rw [List.getElem?_eq_none (by omega)] at hu
        cases hu
      have hget := stp_get hj
      have hspec := Classical.choose_spec (hx (j / 2)) (by omega)
      have hval : its[j / 2] = Classical.choose (hx (j / 2)) := by subst hits; simp
      rw [← hval] at hspec
      rcases Nat.mod_two_eq_zero_or_one j with h0 | h0
      · have e : j / 2 * 2 = j := by omega
        rw [e] at hget hspec
        rw [hget.1] at hu
        rw [← hu]; exact hspec.2.1
      · have e : j / 2 * 2 + 1 = j := by omega
        rw [e] at hget hspec
        rw [hget.2] at hu
        rw [← hu]; exact hspec.2.2
    · rw [← hits] at hq
      simp only [List.mem_map, List.mem_range] at hq
      obtain ⟨i, hil, rfl⟩ := hq
      exact (Classical.choose_spec (hx i) hil).1
theorem StpOk.rd {w : World} {v : Value} {its : List Stp} (h : StpOk w v its) : StpRd [HP.old w.heap.size w] v its :=
  ⟨Reads.old h.1, fun p hp => Reads.old (h.2 p hp).1.1⟩

end Go.Proofs.Ytglinpclcmmnbaa
