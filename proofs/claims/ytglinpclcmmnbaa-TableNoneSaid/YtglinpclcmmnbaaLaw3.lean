/- Chapter 03: what all laws need. -/
import Derived.Test.YtglinpclcmmnbaaTab8
namespace Go.Proofs.Ytglinpclcmmnbaa
open Go.RowKit

theorem IsRow.ints {w : World} {a : Option Addr} {len cap : Nat} {zs : List Int} (h : IsRow .i64 w a len cap zs) : ∃ xs : List Int, xs.length = len ∧ (∀ x ∈ xs, -9223372036854775808 ≤ x ∧ x ≤ 9223372036854775807) ∧ RdS w (.slice a len cap) len 1 (xs.map iv) ∧ Fits (.slice a len cap) :=
  ⟨zs.take len, h.len, fun x hx => wf_i64 (h.wf x hx), h.rd, h.fits⟩

/-- The old memory behind whatever else. -/
theorem Sep.below_of {w : World} {S : List HP} {B : Nat} {w0 : World} (h : Sep w (S ++ [HP.old B w0])) : Below B w0 w := (Sep.drop_left h).below

end Go.Proofs.Ytglinpclcmmnbaa
