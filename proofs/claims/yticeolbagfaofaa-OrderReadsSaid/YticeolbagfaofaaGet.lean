import Derived.Test.YticeolbagfaofaaRef1d
namespace Go.Proofs.Yticeolbagfaofaa
open Go.RowKit

/-- What Get gives, of whatever width. -/
def getOf (l : List Bool) (i : Nat) (n : Int) : Nat × Nat × Nat :=
  if n < 0 ∨ 64 < n then (0, 2, i) else if (l.length : Int) - i < n then (0, 4, i) else (ofBits ((l.drop i).take n.toNat), 0, i + n.toNat)

theorem get_all {n : Int} {b i : Nat} {l : List Bool} {R : List HP} {w : World} (hi : i ≤ l.length) (hl : l.length ≤ 33554432) (H : Sep w (Rdr b l i :: R)) :
    Calls Try.prog 41 #[.pointer (some ⟨b, 0, none⟩), .int .i64 n] w fun e w' => e = .returned (.tuple #[.int .u64 ((getOf l i n).1 : Int), .int .i64 ((getOf l i n).2.1 : Int)]) ∧ Sep w' (Rdr b l (getOf l i n).2.2 :: R) := by
  unfold getOf
  by_cases h1 : n < 0 ∨ 64 < n
  · rw [if_pos h1]
    refine (get_range n h1 b).mono ?_
    rintro _ _ ⟨rfl, rfl⟩
    exact ⟨rfl, H⟩
  rw [if_neg h1]
  by_cases h2 : (l.length : Int) - i < n
  · rw [if_pos h2]
    refine (get_end_int (by omega) (by omega) hi hl (by omega) H).mono ?_
    rintro _ _ ⟨rfl, k, rfl⟩
    exact ⟨rfl, H.drewN k⟩
  rw [if_neg h2]
  refine (get_int (by omega) (by omega) (by omega) hl H).mono ?_
  rintro _ _ ⟨rfl, H'⟩
  exact ⟨rfl, H'⟩

theorem getOf_le (l : List Bool) (i : Nat) (n : Int) (hi : i ≤ l.length) : (getOf l i n).2.2 ≤ l.length := by
  unfold getOf
  split
  · exact hi
  · split
    · exact hi
    · simp only; omega

/-- A piece of a readable slice. -/
theorem RdS.sub {w : World} {g o n cap i m c : Nat} {xs : List Value} (h : RdS w (.slice (some ⟨g, o, none⟩) n cap) n 1 xs) (hm : i + m ≤ n) : RdS w (.slice (some ⟨g, o + i, none⟩) m c) m 1 ((xs.drop i).take m) := by
  refine ⟨by rw [List.length_take, List.length_drop, h.1]; omega, .inr ⟨_, _, rfl, fun j u hu => ?_⟩⟩
  rw [List.getElem?_take] at hu
  split at hu
  · rw [List.getElem?_drop] at hu
    have := h.cell (i + j) hu
    rw [addr_add, Nat.add_assoc]; exact this
  · cases hu

theorem Sep.row_cap {w : World} {e : TypeId} {size : Nat} {a : Option Addr} {n cap : Nat} {xs : List Value} {L : List HP} (h : Sep w (HP.row e size (.slice a n cap) n xs :: L)) : n ≤ cap := by
  rcases h.owns.2 with ⟨h1, h0⟩ | ⟨g, cap', cur, h1, _, _, h4, _⟩
  · omega
  · simp only [Value.slice.injEq] at h1; omega

theorem addr_add_add (ad : Addr) (i j : Nat) : (ad.add i).add j = ad.add (i + j) := by
  obtain ⟨b, o, s⟩ := ad
  unfold Addr.add
  by_cases hi : i = 0
  · subst hi; simp
  · by_cases hj : j = 0
    · subst hj; simp [hi]
    · simp [hi, hj, Nat.add_assoc]

/-- A piece of a readable slice, as the walk writes it: where room is left behind its beginning. -/
theorem RdS.piece {w : World} {ra : Option Addr} {n rc t m : Nat} {xs : List Value} (h : RdS w (.slice ra n rc) n 1 xs) (hm : t + m ≤ n) (hrc : t < rc) : RdS w (.slice (ra.map fun x => x.add t) m (rc - t)) m 1 ((xs.drop t).take m) := by
  have hl : ((xs.drop t).take m).length = m * 1 := by rw [List.length_take, List.length_drop, h.1]; omega
  refine ⟨hl, ?_⟩
  rcases h.2 with ⟨he, h0⟩ | ⟨ad, cap, he, hh⟩
  · simp only [Value.slice.injEq] at he
    omega
  · simp only [Value.slice.injEq] at he
    obtain ⟨rfl, -, rfl⟩ := he
    refine .inr ⟨ad.add t, rc - t, rfl, fun j u hu => ?_⟩
    rw [List.getElem?_take] at hu
    split at hu
    · rw [List.getElem?_drop] at hu
      rw [addr_add_add]; exact hh _ _ hu
    · cases hu
/-- .. where none is left, and so nothing in it. -/
theorem RdS.piece0 {w : World} {ra : Option Addr} {n rc : Nat} {xs : List Value} (h : RdS w (.slice ra n rc) n 1 xs) : RdS w (.slice ra 0 0) 0 1 [] := by
  refine ⟨rfl, ?_⟩
  rcases h.2 with ⟨he, h0⟩ | ⟨ad, cap, he, hh⟩
  · simp only [Value.slice.injEq] at he
    obtain ⟨rfl, -⟩ := he
    exact .inl ⟨rfl, rfl⟩
  · simp only [Value.slice.injEq] at he
    obtain ⟨rfl, -⟩ := he
    exact .inr ⟨ad, 0, rfl, fun j u hu => by simp at hu⟩

end Go.Proofs.Yticeolbagfaofaa
