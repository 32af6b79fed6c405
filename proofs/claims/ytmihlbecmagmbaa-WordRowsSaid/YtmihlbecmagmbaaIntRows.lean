/- A slice of slices of integers that came in. -/
import Derived.Test.YtmihlbecmagmbaaFits
import Derived.Deep.Matrix
import Derived.ChangeSame
namespace Go.Proofs.Ytmihlbecmagmbaa
open Go.RowKit Go.ChangeShapes Go.WideShapes Go.Deep

def IntRows (w : World) (v : Value) (rows : List (Value × List Int)) : Prop :=
  RdS w v rows.length 1 (rows.map (·.1)) ∧ ∀ p ∈ rows, RdS w p.1 p.2.length 1 (p.2.map iv) ∧ ∀ x ∈ p.2, -9223372036854775808 ≤ x ∧ x ≤ 9223372036854775807

theorem open_introws {H : Type} {enc : TypeId × Value → H} {w : World} {base b0 : Nat} {held : Bool} {r : Reach} {v : Value} {d : DataW H} {p : List MemPlace}
    (hv : Value.okWide Try.prog w r b0 55 v) (h : DataW.Trod enc Try.prog w base (fun _ => true) held 55 v d p) : ∃ rows, IntRows w v rows := by
  obtain ⟨a, len, cap, rfl⟩ := okWide_slice Try.underlying55 hv
  obtain ⟨fuel, hf⟩ := h
  rcases open_int_rows Try.underlying55 Try.underlying25 Try.underlying3 (by kernel_rfl) (by kernel_rfl) hf with ⟨hcs, _⟩ | ⟨ad, len', cap', A, L, C, Z, hcs, _, hl, hm, _, hr⟩
  · simp [Value.cells] at hcs
    obtain ⟨rfl, rfl, rfl⟩ := hcs
    exact ⟨[], ⟨rfl, .inl ⟨rfl, rfl⟩⟩, fun p hp => by cases hp⟩
  · simp [Value.cells] at hcs
    obtain ⟨rfl, rfl, rfl⟩ := hcs
    refine ⟨(List.range len).map fun r => (.slice (A r) (L r) (C r), (Z r).take (L r)), ⟨by simp, .inr ⟨ad, cap, by simp, fun j u hu => ?_⟩⟩, fun p hp => ?_⟩
    · have hj : j < len := by
        rcases Nat.lt_or_ge j len with h | h
        · exact h
        · rw [List.getElem?_eq_none (by simpa using h)] at hu; cases hu
      simp [hj] at hu
      rw [← hu]
      exact (hr j (by omega)).1
    · obtain ⟨j, hj, rfl⟩ := List.mem_map.1 hp
      have hj := List.mem_range.1 hj
      obtain ⟨_, h2, h3, h4, h5, h6, h7⟩ := hr j (by omega)
      refine ⟨?_, fun x hx => wf_i64 (h5 x (List.mem_of_mem_take hx))⟩
      have hlen : ((Z j).take (L j)).length = L j := by rw [List.length_take]; omega
      refine ⟨by simp, ?_⟩
      simp only [hlen]
      cases hA : A j with
      | none =>
        have h0 := h6 hA
        refine .inl ⟨?_, by omega⟩
        rw [h0, show L j = 0 by omega]
      | some a' =>
        refine .inr ⟨a', C j, rfl, fun c u hu => ?_⟩
        rw [List.getElem?_map, List.getElem?_take] at hu
        split at hu
        · have hc : c < (Z j).length := by omega
          rw [List.getElem?_eq_getElem hc] at hu
          simp only [Option.map_some, Option.some.injEq] at hu
          rw [(h7 a' hA).2 c (by omega), ← hu]
          simp [iv, List.getD, hc]
        · simp at hu

end Go.Proofs.Ytmihlbecmagmbaa
