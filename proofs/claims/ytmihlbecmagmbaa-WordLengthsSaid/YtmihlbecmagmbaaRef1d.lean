import Derived.Test.YtmihlbecmagmbaaNr
namespace Go.Proofs.Ytmihlbecmagmbaa
open Go.RowKit

theorem allBits_take_succ (bs : List Nat) (k : Nat) (h : k < bs.length) : allBits (bs.take (k + 1)) = allBits (bs.take k) ++ valBits bs[k] 8 := by
  rw [List.take_succ_eq_append_getElem h, allBits_append]
  simp [allBits]

/-- What Open gives. -/
def OpenPost (bs : List Nat) (n : Int) (R : List HP) (r : Value) (w' : World) : Prop :=
  ((openBits bs n).1 ≠ 0 ∧ r = .tuple #[.slice none 0 0, .int .i64 ((openBits bs n).1 : Int)] ∧ Sep w' R) ∨
  ∃ v l, openBits bs n = (0, l) ∧ r = .tuple #[v, .int .i64 0] ∧ Sep w' (HP.row 3 1 v l.length (l.map bitv) :: R)

/-- A shorter slice of an owned row. -/
theorem Sep.row_take {w : World} {e : TypeId} {a : Option Addr} {n cap m : Nat} {xs : List Value} {L : List HP} (h : Sep w (HP.row e 1 (.slice a n cap) n xs :: L)) (hm : m ≤ n) (hn : n ≠ 0) : Sep w (HP.row e 1 (.slice a m cap) m (xs.take m) :: L) := by
  obtain ⟨g, cap', cur, he, h1, h2, h3, h4, h5⟩ := h.row_open hn
  simp only [Value.slice.injEq, true_and] at he
  obtain ⟨rfl, rfl⟩ := he
  refine Sep.row_shut h5 (by omega) h2 h3 ?_
  rw [← h4, List.take_take, Nat.mul_one, Nat.mul_one, Nat.min_eq_left hm]

end Go.Proofs.Ytmihlbecmagmbaa
