/- Reading a long form: plain. -/
import Derived.Test.YtoejgfbeemokcaaText
namespace Go.Proofs.Ytoejgfbeemokcaa
open Go.RowKit

/-- How many noughts lie ahead. -/
def leadN : List Bool → Nat
  | [] => 0
  | true :: _ => 0
  | false :: l => leadN l + 1
theorem leadN_le : ∀ l : List Bool, leadN l ≤ l.length
  | [] => Nat.le_refl _
  | true :: _l => Nat.zero_le _
  | false :: l => Nat.succ_le_succ (leadN_le l)
theorem leadN_false : ∀ (l : List Bool) (j : Nat), j < leadN l → l.getD j false = false
  | [], _, h => absurd h (Nat.not_lt_zero _)
  | true :: l, _, h => absurd h (Nat.not_lt_zero _)
  | false :: l, 0, _ => rfl
  | false :: l, j + 1, h => by
    have := leadN_false l j (Nat.lt_of_succ_lt_succ h)
    simpa using this
theorem leadN_true : ∀ (l : List Bool), leadN l < l.length → l.getD (leadN l) false = true
  | [], h => absurd h (Nat.not_lt_zero _)
  | true :: l, _ => rfl
  | false :: l, h => by
    have := leadN_true l (Nat.lt_of_succ_lt_succ h)
    simpa [leadN] using this
/-- The first 1 lies there. -/
theorem leadN_eq {l : List Bool} {k : Nat} (h0 : ∀ j, j < k → l.getD j false = false) (h1 : l.getD k false = true) : leadN l = k := by
  have hk : k < l.length := by
    apply Nat.lt_of_not_le
    intro hc
    rw [List.getD, List.getElem?_eq_none hc] at h1
    exact absurd h1 (by simp)
  have ha : ¬ leadN l < k := fun h => by
    have := leadN_true l (by omega)
    rw [h0 _ h] at this; cases this
  have hb : ¬ k < leadN l := fun h => by
    have := leadN_false l k h
    rw [h1] at this; cases this
  omega
theorem leadN_none {l : List Bool} (h0 : ∀ j, j < l.length → l.getD j false = false) : leadN l = l.length := by
  have h1 := leadN_le l
  apply Nat.le_antisymm h1
  apply Nat.le_of_not_lt
  intro h
  have := leadN_true l h
  rw [h0 _ h] at this; cases this
theorem leadN_ge {l : List Bool} {k : Nat} (hk : k ≤ l.length) (h0 : ∀ j, j < k → l.getD j false = false) : k ≤ leadN l := by
  apply Nat.le_of_not_lt
  intro h
  have := leadN_true l (by omega)
  rw [h0 _ h] at this; cases this

/-- What comes next: the number, how many bits, the error's number. -/
def getN (l : List Bool) : Nat × Nat × Nat :=
  if 33 ≤ leadN l then (0, 0, 3)
  else if l.length < 2 * leadN l + 1 then (0, 0, 4)
  else if 4294967297 < ofBits ((l.drop (leadN l)).take (leadN l + 1)) then (0, 0, 3)
  else (ofBits ((l.drop (leadN l)).take (leadN l + 1)) - 1, 2 * leadN l + 1, 0)

end Go.Proofs.Ytoejgfbeemokcaa
