/- word: the stack. -/
import Derived.Test.YtmihlbecmagmbaaWord1
import Derived.Test.YtmihlbecmagmbaaCells
namespace Go.Proofs.Ytmihlbecmagmbaa
open Go.RowKit Go.Shelf

/-- A span's cells. -/
def spc (x : Int × Bool) : List Value := [.int .i64 x.1, .bool x.2]
def spcs : List (Int × Bool) → List Value
  | [] => []
  | x :: s => spcs s ++ spc x
theorem spcs_length : ∀ s : List (Int × Bool), (spcs s).length = s.length * 2
  | [] => rfl
  | x :: s => by simp [spcs, spcs_length s, spc]; omega
theorem spcs_get0 (x : Int × Bool) (s : List (Int × Bool)) : (spcs (x :: s))[s.length * 2]? = some (.int .i64 x.1) := by
  simp [spcs, ← spcs_length, spc]
theorem spcs_get1 (x : Int × Bool) (s : List (Int × Bool)) : (spcs (x :: s))[s.length * 2 + 1]? = some (.bool x.2) := by
  simp [spcs, ← spcs_length, spc]
theorem spcs_take (x : Int × Bool) (s : List (Int × Bool)) : (spcs (x :: s)).take (s.length * 2) = spcs s := by
  simp [spcs, ← spcs_length]

/-- A stack. -/
def Stk (q : Nat) (s : List (Int × Bool)) : HP := HP.ex fun v => HP.all [HP.pt q #[v] 70, HP.row 75 2 v s.length (spcs s)]
theorem Stk.open {w : World} {q : Nat} {s : List (Int × Bool)} {R : List HP} (h : Sep w (Stk q s :: R)) :
    ∃ v, Sep w (HP.pt q #[v] 70 :: HP.row 75 2 v s.length (spcs s) :: R) := by
  obtain ⟨v, h⟩ := h.ex_elim
  exact ⟨v, h.all_elim⟩
theorem Stk.shut {w : World} {q : Nat} {s : List (Int × Bool)} {R : List HP} {v : Value} (h : Sep w (HP.pt q #[v] 70 :: HP.row 75 2 v s.length (spcs s) :: R)) : Sep w (Stk q s :: R) :=
  Sep.ex_intro v (Sep.all_intro h)

/-- The last element is taken away. -/
theorem Sep.row_pop {w : World} {e : TypeId} {size g n cap : Nat} {xs : List Value} {L : List HP} (h : Sep w (HP.row e size (.slice (some ⟨g, 0, none⟩) (n + 1) cap) (n + 1) xs :: L)) :
    Sep w (HP.row e size (.slice (some ⟨g, 0, none⟩) n cap) n (xs.take (n * size)) :: L) := by
  obtain ⟨g', cap', cur, he, h1, h2, h3, h4, h5⟩ := h.row_open (by omega)
  simp only [Value.slice.injEq, Option.some.injEq, Addr.mk.injEq, true_and, and_true] at he
  obtain ⟨rfl, rfl⟩ := he
  refine h5.row_shut (by omega) h2 h3 ?_
  rw [← h4, List.take_take, Nat.min_eq_left (Nat.mul_le_mul_right _ (by omega))]

theorem load_span {w : World} {b : Nat} {x y : Value} {R : List HP} (H : Sep w (HP.pt b #[x, y] 75 :: R)) : (loadVar 75 ⟨b, 0, none⟩).run Try.prog w = .ok (.agg #[x, y]) w :=
  run_loadVar_row w b 75 75 #[x, y] (0, 0) _ H.heap Try.underlying75 rfl (by kernel_rfl)

set_option maxRecDepth 100000 in
set_option maxHeartbeats 2000000 in
theorem pop_calls {q : Nat} {s : List (Int × Bool)} {R : List HP} {w : World} (hs : s.length ≤ 100000) (H : Sep w (Stk q s :: R)) :
    Calls Try.prog 52 #[.pointer (some ⟨q, 0, none⟩)] w fun e w' => e = .returned (.agg #[.int .i64 (popS s).1.1, .bool (popS s).1.2]) ∧ Sep w' (Stk q (popS s).2 :: R) := by
  obtain ⟨v, H0⟩ := Stk.open H
  clear H
  cases s with
  | nil =>
    have H1 := H0.alloc #[.int .i64 0, .bool false] 75
    obtain ⟨a, cap, rfl⟩ := H0.tail.row_form
    have c0 := H1.swap.cell 0 rfl
    have H2 := H0.alloc #[.int .i64 3, .bool true] 75
    have hl := load_span H2
    go_enter Try.func52, Try.ntmps52
    go_wp2_with fail
    refine bodyPost_ret (results_cell1 rfl rfl hl) rfl ?_
    exact ⟨rfl, Stk.shut H2.tail⟩
  | cons x s =>
    obtain ⟨g, cap, cur, he, hnc, hcm, hcs, htk, _⟩ := H0.swap.row_open (by simp)
    subst he
    have hsl : s.length + 1 ≤ 100000 := by simpa using hs
    clear hs
    have K0 := H0.swap.row_pop.swap
    rw [spcs_take] at K0
    have H1 := H0.alloc #[.int .i64 0, .bool false] 75
    have hrd := H1.tail.swap.rd
    have r0 := hrd.cell (s.length * 2) (spcs_get0 x s)
    have r1 := hrd.cell (s.length * 2 + 1) (spcs_get1 x s)
    have c0 := H1.swap.cell 0 rfl
    have f0 := H1.swap.froz 0
    rw [List.length_cons] at c0
    rw [Nat.zero_add] at r0 r1
    clear hrd
    have K1 := K0.alloc #[.int .i64 0, .bool false] 75
    go_enter Try.func52, Try.ntmps52
    go_wp2_with fail
    clear H0 K0 hcm hcs htk
    generalize w.heap.size = pb at *
    generalize w.alloc (.cells #[.int .i64 0, .bool false] 75) = W at *
    have K3 := ((K1.alloc #[.int .i64 x.1, .bool x.2] 75).drew).swap.rot3
    have H3 := (H1.alloc #[.int .i64 0, .bool false] 75).drew
    have hrd := H3.tail.tail.swap.rd
    have r2 := hrd.cell (s.length * 2) (spcs_get0 x s)
    have r3 := hrd.cell (s.length * 2 + 1) (spcs_get1 x s)
    have c2 := H3.swap.tail.swap.cell 0 rfl
    rw [List.length_cons] at c2
    rw [Nat.zero_add] at r2 r3
    clear hrd
    have hi : ((s.length : Int) + 1 - 1) = (s.length : Int) := by omega
    have hi2 : (s.length : Int) < (s.length : Int) + 1 := by omega
    go_region
    clear H1 H3 r0 r1 r2 r3 c0 c2 f0
    generalize hpx : W.heap.size = px at *
    generalize (W.alloc (.cells #[.int .i64 x.1, .bool x.2] 75)).drew = W2 at *
    have c0 := K3.cell 0 rfl
    have f0 := K3.froz 0
    rw [List.length_cons] at c0
    have k0 := K3.tail.swap.cell 0 rfl
    have k1 := K3.tail.swap.cell 1 rfl
    have hcp : s.length ≤ cap := by have := hnc; simp only [List.length_cons] at this; omega
    have hcp2 : (s.length : Int) ≤ (cap : Int) := by omega
    clear hnc
    go_wp2_with fail
    go_region
    have H5 := (K3.set 0 (.slice (some ⟨g, 0, none⟩) s.length cap)).drew
    clear c0 f0 k0 k1 K3 K1
    generalize (W2.setCell ⟨q, 0, none⟩ (.slice (some ⟨g, 0, none⟩) s.length cap)).drew = W3 at *
    have k0 := H5.tail.swap.cell 0 rfl
    have k1 := H5.tail.swap.cell 1 rfl
    have p0 := H5.tail.cell 0 rfl
    have p1 := H5.tail.cell 1 rfl
    have f0 := H5.tail.froz 0
    have f1 := H5.tail.froz 1
    go_wp2_with fail
    have H6 := (H5.swap.set 0 (.int .i64 x.1)).set 1 (.bool x.2)
    have hl := load_span H6
    refine bodyPost_ret (results_cell1 rfl rfl hl) rfl ?_
    exact ⟨rfl, Stk.shut H6.tail.swap.tail⟩

end Go.Proofs.Ytmihlbecmagmbaa
