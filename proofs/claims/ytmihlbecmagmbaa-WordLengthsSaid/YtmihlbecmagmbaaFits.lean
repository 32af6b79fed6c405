/- Slices of whole numbers: what a program's contracts on them need. -/
import Derived.Test.YtmihlbecmagmbaaBase
import Derived.Test.YtmihlbecmagmbaaTabPlain
import Derived.Test.YtmihlbecmagmbaaProg
namespace Go.Proofs.Ytmihlbecmagmbaa
open Go.RowKit

theorem info_iv : (Try.prog.info? 3).map (fun i => (i.zero, i.size, i.bytes)) = some (some (.int .i64 0), 1, 8) := by kernel_rfl

theorem iv_one (xs : List Int) : ∀ u ∈ xs.map iv, u.oneCell' = true := by
  intro u hu
  simp only [List.mem_map] at hu
  obtain ⟨x, _, rfl⟩ := hu
  rfl
theorem iv_get {xs : List Int} {i : Nat} (h : i < xs.length) : (xs.map iv)[i]? = some (.int .i64 xs[i]) := by
  simp [iv, List.getElem?_eq_getElem h]

/-- A slice is no longer than its room. -/
def Fits (v : Value) : Prop := ∀ a m c, v = .slice a m c → m ≤ c
theorem Sep.row_fits {w : World} {e : TypeId} {size : Nat} {v : Value} {n : Nat} {xs : List Value} {L : List HP} (h : Sep w (HP.row e size v n xs :: L)) : Fits v := by
  intro a m c hv
  by_cases hn : n = 0
  · obtain ⟨a', cap, he⟩ := h.row_form
    rw [he] at hv
    simp only [Value.slice.injEq] at hv
    rcases h.owns.2 with ⟨h1, _⟩ | ⟨g, cap2, cur, h1, _, _, hnc, _⟩
    · rw [h1] at he
      simp only [Value.slice.injEq] at he
      omega
    · rw [h1] at he
      simp only [Value.slice.injEq] at he
      omega
  · obtain ⟨g, cap, cur, he, h1, _⟩ := h.row_open hn
    rw [he] at hv
    simp only [Value.slice.injEq] at hv
    omega
theorem IsRow.fits {k : IntKind} {w : World} {a : Option Addr} {len cap : Nat} {zs : List Int} (h : IsRow k w a len cap zs) : Fits (.slice a len cap) := by
  intro a' m c hv
  simp only [Value.slice.injEq] at hv
  rcases h with ⟨rfl, rfl, rfl, rfl⟩ | ⟨x, rfl, hl, _⟩ <;> omega
theorem IsRow.ints {w : World} {a : Option Addr} {len cap : Nat} {zs : List Int} (h : IsRow .i64 w a len cap zs) : ∃ xs : List Int, xs.length = len ∧ (∀ x ∈ xs, -9223372036854775808 ≤ x ∧ x ≤ 9223372036854775807) ∧ RdS w (.slice a len cap) len 1 (xs.map iv) ∧ Fits (.slice a len cap) :=
  ⟨zs.take len, h.len, fun x hx => wf_i64 (h.wf x hx), h.rd, h.fits⟩
/-- The old memory behind whatever else. -/
theorem Sep.below_of {w : World} {S : List HP} {B : Nat} {w0 : World} (h : Sep w (S ++ [HP.old B w0])) : Below B w0 w := (Sep.drop_left h).below
/-- The first elements. -/
theorem RdS.take {w : World} {a : Addr} {n cap k : Nat} {xs : List Value} (h : RdS w (.slice (some a) n cap) n 1 xs) (hk : k ≤ n) : RdS w (.slice (some a) k cap) k 1 (xs.take k) := by
  have hl := h.1
  refine ⟨by rw [List.length_take]; omega, .inr ⟨a, cap, rfl, fun j u hu => ?_⟩⟩
  rcases h.2 with ⟨h1, _⟩ | ⟨ad, c, he, hh⟩
  · cases h1
  · simp only [Value.slice.injEq, Option.some.injEq, true_and] at he
    obtain ⟨rfl, rfl⟩ := he
    rw [List.getElem?_take] at hu
    split at hu
    · exact hh j u hu
    · cases hu

end Go.Proofs.Ytmihlbecmagmbaa
