/- reference 29: Of, Add. -/
import Derived.Test.YtbhpcpcpccmacaaRes4
namespace Go.Proofs.Ytbhpcpcpccmacaa
open Go.RowKit Go.Shelf

theorem wrap_dif {x y : Int} (hx : OnC x) (hy : OnC y) : IntKind.i64.wrap (x - y) = x - y ∧ wrap64 (x - y) = x - y := by
  unfold OnC at hx hy
  constructor
  · simp only [IntKind.wrap, IntKind.signed, IntKind.bits]
    first | omega | (simp; omega)
  · unfold wrap64; omega
theorem zig_nat {x y : Int} (hx : OnC x) (hy : OnC y) : (((zigZ (x - y)).toNat : Nat) : Int) = zigZ (x - y) := by
  unfold OnC at hx hy
  have hz := zigZ_range (n := x - y) (by omega) (by omega)
  exact Int.toNat_of_nonneg hz.1

set_option maxRecDepth 100000 in
set_option maxHeartbeats 8000000 in
theorem rof_calls {p q : List Int} (hp : p.length = 3) (hq : q.length = 3) (op : OnP p) (oq : OnP q) {F : List HP} {w : World} (H : Sep w F) : Calls Try.prog 35 #[pv p, pv q] w fun e w' => e = .returned (rv (ofL p q)) ∧ Sep w' F := by
  obtain ⟨x0, x1, x2, rfl⟩ := list_three hp
  obtain ⟨y0, y1, y2, rfl⟩ := list_three hq
  have hx0 := op x0 (by simp)
  have hx1 := op x1 (by simp)
  have hx2 := op x2 (by simp)
  have hy0 := oq y0 (by simp)
  have hy1 := oq y1 (by simp)
  have hy2 := oq y2 (by simp)
  have hr : rv (ofL [x0, x1, x2] [y0, y1, y2]) = .agg #[.int .u64 (zigZ (x0 - y0)), .int .u64 (zigZ (x1 - y1)), .int .u64 (zigZ (x2 - y2))] := by
    rw [← zig_nat hx0 hy0, ← zig_nat hx1 hy1, ← zig_nat hx2 hy2]
    rfl
  rw [hr]
  obtain ⟨a0, b0⟩ := wrap_dif hx0 hy0
  obtain ⟨a1, b1⟩ := wrap_dif hx1 hy1
  obtain ⟨a2, b2⟩ := wrap_dif hx2 hy2
  unfold OnC at hx0 hx1 hx2 hy0 hy1 hy2
  generalize hv0 : x0 - y0 = v0 at *
  generalize hv1 : x1 - y1 = v1 at *
  generalize hv2 : x2 - y2 = v2 at *
  have g0 : -2097152 ≤ v0 ∧ v0 ≤ 2097152 := by omega
  have g1 : -2097152 ≤ v1 ∧ v1 ≤ 2097152 := by omega
  have g2 : -2097152 ≤ v2 ∧ v2 ≤ 2097152 := by omega
  clear hx0 hx1 hx2 hy0 hy1 hy2 hr hp hq op oq
  have H1 := H.alloc #[.int .i64 x0, .int .i64 x1, .int .i64 x2] 23
  have H2 := H1.alloc #[.int .i64 y0, .int .i64 y1, .int .i64 y2] 23
  have H3 := H2.alloc #[.int .u64 0, .int .u64 0, .int .u64 0] 29
  simp only [World.size_alloc] at H2 H3
  clear H1 H2 H
  show Calls Try.prog 35 #[.agg #[.int .i64 x0, .int .i64 x1, .int .i64 x2], .agg #[.int .i64 y0, .int .i64 y1, .int .i64 y2]] w _
  go_enter Try.func35, Try.ntmps35
  go_wp2_with fail
  generalize w.heap.size + 1 + 1 = q4 at *
  generalize w.heap.size + 1 = q3 at *
  generalize w.heap.size = q2 at *
  generalize ((w.alloc _).alloc _).alloc _ = w3 at *
  have c0 := H3.tail.tail.cell 0 rfl
  have c1 := H3.tail.tail.cell 1 rfl
  have c2 := H3.tail.tail.cell 2 rfl
  have d0 := H3.tail.cell 0 rfl
  have d1 := H3.tail.cell 1 rfl
  have d2 := H3.tail.cell 2 rfl
  have e0 := H3.cell 0 rfl
  have e1 := H3.cell 1 rfl
  have e2 := H3.cell 2 rfl
  have f0 := H3.froz 0
  have f1 := H3.froz 1
  have f2 := H3.froz 2
  have H4 := Sep.set3 (a0 := .int .u64 (zigZ v0)) (a1 := .int .u64 (zigZ v1)) (a2 := .int .u64 (zigZ v2)) H3.drew
  have k0 := H4.tail.tail.cell 0 rfl
  have k1 := H4.tail.tail.cell 1 rfl
  have k2 := H4.tail.tail.cell 2 rfl
  have l0 := H4.tail.cell 0 rfl
  have l1 := H4.tail.cell 1 rfl
  have l2 := H4.tail.cell 2 rfl
  go_region_held3 (fun w' => w'.cell? ⟨q2, 0, none⟩ = some (.int .i64 x0) ∧ w'.cell? ⟨q2, 1, none⟩ = some (.int .i64 x1) ∧ w'.cell? ⟨q2, 2, none⟩ = some (.int .i64 x2) ∧ w'.cell? ⟨q3, 0, none⟩ = some (.int .i64 y0) ∧ w'.cell? ⟨q3, 1, none⟩ = some (.int .i64 y1) ∧ w'.cell? ⟨q3, 2, none⟩ = some (.int .i64 y2)) (first | exact ⟨c0, c1, c2, d0, d1, d2⟩ | exact ⟨k0, k1, k2, l0, l1, l2⟩) (first | (go_at_call 66; refine (rzig29_calls (by omega) (by omega)).mono ?_; rintro _ _ ⟨rfl, rfl⟩))
  all_goals (
    clear c0 c1 c2 d0 d1 d2 e0 e1 e2 f0 f1 f2 k0 k1 k2 l0 l1 l2
    have l4 := load_arr rfl H4
    go_wp2_with fail
    refine bodyPost_ret (results_cell1 rfl rfl l4) rfl ?_
    exact ⟨rfl, H4.tail.tail.tail⟩)

end Go.Proofs.Ytbhpcpcpccmacaa
