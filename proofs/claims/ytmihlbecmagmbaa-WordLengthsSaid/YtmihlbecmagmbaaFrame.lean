import Derived.Test.YtmihlbecmagmbaaRef1c
import Derived.OpenShut
namespace Go.Proofs.Ytmihlbecmagmbaa
open Go.RowKit

/-- Bytes that came in. -/
theorem IsRow.bytes {w : World} {a : Option Addr} {len cap : Nat} {zs : List Int} (h : IsRow .u8 w a len cap zs) : ∃ xs : List Nat, xs.length = len ∧ (∀ x ∈ xs, x < 256) ∧ RdS w (.slice a len cap) len 1 (xs.map u8v) := by
  have hr := h.rd
  have hw := h.wf
  have hl := h.len
  refine ⟨(zs.take len).map Int.toNat, by simpa using hl, ?_, ?_⟩
  · intro x hx
    simp only [List.mem_map] at hx
    obtain ⟨n, hn, rfl⟩ := hx
    have := wf_u8 (hw n hn); omega
  · have e : (zs.take len).map (Value.int .u8) = ((zs.take len).map Int.toNat).map u8v := by
      rw [List.map_map]
      apply List.map_congr_left
      intro n hn
      have := wf_u8 (hw n hn)
      simp [u8v, Int.toNat_of_nonneg this.1]
    rw [← e]; exact hr

#print axioms IsRow.bytes
end Go.Proofs.Ytmihlbecmagmbaa
