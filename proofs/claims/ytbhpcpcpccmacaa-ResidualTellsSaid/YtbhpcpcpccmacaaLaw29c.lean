/- Law 29: ResidualBack. -/
import Derived.Test.YtbhpcpcpccmacaaRes15
import Derived.Test.YtbhpcpcpccmacaaRes6
import Derived.Test.YtbhpcpcpccmacaaRes5
import Derived.Test.YtbhpcpcpccmacaaOpen29
namespace Go.Proofs.Ytbhpcpcpccmacaa
open Go.RowKit Go.Shelf

theorem of_fine {p q : List Int} (hp : p.length = 3) (hq : q.length = 3) (op : OnP p) (oq : OnP q) : ∀ x ∈ ofL p q, x ≤ 4194304 := by
  obtain ⟨x0, x1, x2, rfl⟩ := list_three hp
  obtain ⟨y0, y1, y2, rfl⟩ := list_three hq
  have hx0 := op x0 (by simp)
  have hx1 := op x1 (by simp)
  have hx2 := op x2 (by simp)
  have hy0 := oq y0 (by simp)
  have hy1 := oq y1 (by simp)
  have hy2 := oq y2 (by simp)
  unfold OnC at hx0 hx1 hx2 hy0 hy1 hy2
  intro x hx
  unfold ofL at hx
  simp at hx
  unfold zigZ at hx
  rcases hx with rfl | rfl | rfl <;> split <;> omega
/-- Of points of the lattice the residual leads back. -/
theorem add_of {p q : List Int} (hp : p.length = 3) (hq : q.length = 3) (op : OnP p) (oq : OnP q) : Good q (ofL p q) ∧ addL q (ofL p q) = p := by
  obtain ⟨x0, x1, x2, rfl⟩ := list_three hp
  obtain ⟨y0, y1, y2, rfl⟩ := list_three hq
  have hf := of_fine hp hq op oq
  have hx0 := op x0 (by simp)
  have hx1 := op x1 (by simp)
  have hx2 := op x2 (by simp)
  have hy0 := oq y0 (by simp)
  have hy1 := oq y1 (by simp)
  have hy2 := oq y2 (by simp)
  have e0 : zagZ (((zigZ (x0 - y0)).toNat : Nat) : Int) = x0 - y0 := by rw [zig_nat hx0 hy0, zag_zig]
  have e1 : zagZ (((zigZ (x1 - y1)).toNat : Nat) : Int) = x1 - y1 := by rw [zig_nat hx1 hy1, zag_zig]
  have e2 : zagZ (((zigZ (x2 - y2)).toNat : Nat) : Int) = x2 - y2 := by rw [zig_nat hx2 hy2, zag_zig]
  have ha : addL [y0, y1, y2] (ofL [x0, x1, x2] [y0, y1, y2]) = [x0, x1, x2] := by
    show [y0 + zagZ (((zigZ (x0 - y0)).toNat : Nat) : Int), y1 + zagZ (((zigZ (x1 - y1)).toNat : Nat) : Int), y2 + zagZ (((zigZ (x2 - y2)).toNat : Nat) : Int)] = _
    rw [e0, e1, e2, show y0 + (x0 - y0) = x0 by omega, show y1 + (x1 - y1) = x1 by omega, show y2 + (x2 - y2) = x2 by omega]
  refine ⟨(good_iff rfl (ofL_length rfl rfl)).2 ⟨oq, hf, ?_⟩, ha⟩
  rw [ha]
  exact op
/-- .. and another one leads to another point. -/
theorem of_add {q : List Int} {r : List Nat} (hq : q.length = 3) (hr : r.length = 3) (h : Good q r) : ofL (addL q r) q = r := by
  obtain ⟨y0, y1, y2, rfl⟩ := list_three hq
  obtain ⟨u0, u1, u2, rfl⟩ := list_three hr
  show [(zigZ (y0 + zagZ (u0 : Int) - y0)).toNat, (zigZ (y1 + zagZ (u1 : Int) - y1)).toNat, (zigZ (y2 + zagZ (u2 : Int) - y2)).toNat] = _
  rw [show y0 + zagZ (u0 : Int) - y0 = zagZ (u0 : Int) by omega, show y1 + zagZ (u1 : Int) - y1 = zagZ (u1 : Int) by omega, show y2 + zagZ (u2 : Int) - y2 = zagZ (u2 : Int) by omega, zig_zag (by omega), zig_zag (by omega), zig_zag (by omega)]
  rfl

end Go.Proofs.Ytbhpcpcpccmacaa
