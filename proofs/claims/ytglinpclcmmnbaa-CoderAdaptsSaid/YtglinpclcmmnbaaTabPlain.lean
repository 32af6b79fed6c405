/- Tables: plain. -/
import Derived.Test.YtglinpclcmmnbaaSepLaws2
namespace Go.Proofs.Ytglinpclcmmnbaa
open Go.RowKit

def iv (x : Int) : Value := .int .i64 x

/-- A sum. -/
def isum : List Int → Int
  | [] => 0
  | x :: l => x + isum l
theorem isum_nil : isum [] = 0 := rfl
theorem isum_append (a b : List Int) : isum (a ++ b) = isum a + isum b := by
  induction a with
  | nil => simp [isum]
  | cons x a ih => simp only [List.cons_append, isum, ih]; omega
theorem isum_take_succ {l : List Int} {i : Nat} (h : i < l.length) : isum (l.take (i + 1)) = isum (l.take i) + l[i] := by
  rw [List.take_succ_eq_append_getElem h, isum_append]; simp [isum]
theorem isum_set : ∀ {l : List Int} {i : Nat} (h : i < l.length) (v : Int), isum (l.set i v) = isum l - l[i] + v
  | x :: l, 0, _, v => by simp [isum]; omega
  | x :: l, i + 1, h, v => by
    have h2 : i < l.length := by simpa using h
    have := isum_set h2 v
    simp only [List.set_cons_succ, isum, this, List.getElem_cons_succ]; omega
theorem isum_nonneg : ∀ {l : List Int}, (∀ x ∈ l, 1 ≤ x) → (l.length : Int) ≤ isum l
  | [], _ => by simp [isum]
  | x :: l, h => by
    have h1 := h x (by simp)
    have h2 := isum_nonneg (l := l) (fun y hy => h y (by simp [hy]))
    simp only [isum, List.length_cons]; omega
theorem isum_take_le {l : List Int} (h : ∀ x ∈ l, 1 ≤ x) (i : Nat) : isum (l.take i) ≤ isum l := by
  have h1 : isum l = isum (l.take i) + isum (l.drop i) := by rw [← isum_append, List.take_append_drop]
  have h2 := isum_nonneg (l := l.drop i) (fun x hx => h x (List.mem_of_mem_drop hx))
  omega
theorem isum_take_nonneg {l : List Int} (h : ∀ x ∈ l, 1 ≤ x) (i : Nat) : 0 ≤ isum (l.take i) := by
  have := isum_nonneg (l := l.take i) (fun x hx => h x (List.mem_of_mem_take hx))
  omega

/-- A table's counts. -/
def Vt (cs : List Int) : Prop := 1 ≤ cs.length ∧ cs.length ≤ 256 ∧ (∀ x ∈ cs, 1 ≤ x) ∧ isum cs ≤ 65536
/-- The error's number of counts. -/
def tabErr (xs : List Int) : Nat :=
  if xs.length < 1 ∨ 256 < xs.length then 1
  else if ¬ ∀ x ∈ xs, 1 ≤ x then 2
  else if 65536 < isum xs then 7 else 0
theorem tabErr_ok {xs : List Int} (h : tabErr xs = 0) : Vt xs := by
  unfold tabErr at h
  split at h
  · cases h
  split at h
  · cases h
  split at h
  · cases h
  · next h1 h2 h3 => exact ⟨by omega, by omega, Decidable.not_not.1 h2, by omega⟩
theorem tabErr_of {xs : List Int} (h : Vt xs) : tabErr xs = 0 := by
  obtain ⟨h1, h2, h3, h4⟩ := h
  unfold tabErr
  rw [if_neg (by omega), if_neg (fun hc => hc h3), if_neg (by omega)]

/-- A sum of numbers that are cut. -/
def capSum : List Int → Int
  | [] => 0
  | x :: l => min x 65537 + capSum l
theorem capSum_append (a b : List Int) : capSum (a ++ b) = capSum a + capSum b := by
  induction a with
  | nil => simp [capSum]
  | cons x a ih => simp only [List.cons_append, capSum, ih]; omega
theorem capSum_take_succ {l : List Int} {i : Nat} (h : i < l.length) : capSum (l.take (i + 1)) = capSum (l.take i) + min l[i] 65537 := by
  rw [List.take_succ_eq_append_getElem h, capSum_append]; simp [capSum]
theorem capSum_bnd : ∀ {l : List Int}, (∀ x ∈ l, 1 ≤ x) → 0 ≤ capSum l ∧ capSum l ≤ 65537 * l.length
  | [], _ => by simp [capSum]
  | x :: l, h => by
    have h1 := h x (by simp)
    have h2 := capSum_bnd (l := l) (fun y hy => h y (by simp [hy]))
    simp only [capSum, List.length_cons]; omega
theorem capSum_big : ∀ {l : List Int}, (∀ x ∈ l, 1 ≤ x) → (capSum l ≤ isum l) ∧ (capSum l ≤ 65536 → capSum l = isum l)
  | [], _ => by simp [capSum, isum]
  | x :: l, h => by
    have h1 := h x (by simp)
    have h2 := capSum_big (l := l) (fun y hy => h y (by simp [hy]))
    have h3 := capSum_bnd (l := l) (fun y hy => h y (by simp [hy]))
    simp only [capSum, isum]
    refine ⟨by omega, fun hc => ?_⟩
    have := h2.2 (by omega)
    omega

/-- The symbol of a number. -/
def findOf : List Int → Int → Nat
  | [], _ => 0
  | c :: l, x => if x < c then 0 else findOf l (x - c) + 1
theorem findOf_le : ∀ (l : List Int) (x : Int), findOf l x ≤ l.length
  | [], _ => Nat.le_refl _
  | c :: l, x => by
    have := findOf_le l (x - c)
    simp only [findOf, List.length_cons]; split <;> omega
theorem findOf_lt : ∀ {l : List Int} {x : Int}, x < isum l → 0 ≤ x → findOf l x < l.length
  | [], x, h, h0 => by simp [isum] at h; omega
  | c :: l, x, h, h0 => by
    simp only [findOf, List.length_cons]
    split
    · omega
    · have := findOf_lt (l := l) (x := x - c) (by simp only [isum] at h; omega) (by omega)
      omega
/-- Number x lies behind the end of symbol i just when its symbol is a later one. -/
theorem findOf_spec : ∀ {l : List Int} {x : Int} {i : Nat}, (∀ y ∈ l, 1 ≤ y) → i < l.length → (x < isum (l.take (i + 1)) ↔ findOf l x ≤ i)
  | [], _, _, _, h => absurd h (by simp)
  | c :: l, x, 0, hp, _ => by
    simp only [List.take_succ_cons, List.take_zero, isum, findOf]
    split <;> omega
  | c :: l, x, i + 1, hp, h => by
    have h2 : i < l.length := by simpa using h
    have hp2 : ∀ y ∈ l, 1 ≤ y := fun y hy => hp y (by simp [hy])
    have ih := findOf_spec (x := x - c) hp2 h2
    have h0 := isum_take_nonneg hp2 (i + 1)
    simp only [List.take_succ_cons, isum, findOf]
    split
    · constructor
      · intro _; omega
      · intro _; omega
    · constructor
      · intro hx; have := ih.1 (by omega); omega
      · intro hx; have := ih.2 (by omega); omega
theorem findOf_in {l : List Int} {x : Int} {s : Nat} (hp : ∀ y ∈ l, 1 ≤ y) (hs : s < l.length) : findOf l x = s ↔ (x < isum (l.take (s + 1)) ∧ (s = 0 ∨ isum (l.take s) ≤ x)) := by
  have h1 := findOf_spec (x := x) hp hs
  cases s with
  | zero =>
    constructor
    · intro h; exact ⟨h1.2 (by omega), .inl rfl⟩
    · intro h; have := h1.1 h.1; omega
  | succ s =>
    have h2 := findOf_spec (x := x) (i := s) hp (by omega)
    constructor
    · intro h
      refine ⟨h1.2 (by omega), .inr ?_⟩
      apply Int.not_lt.1
      intro hc
      have := h2.1 hc; omega
    · intro ⟨ha, hb⟩
      have h3 := h1.1 ha
      have h4 : ¬ findOf l x ≤ s := fun hc => by
        have := h2.2 hc; omega
      omega

/-- Halved, upwards. -/
def halveOf (cs : List Int) : List Int := cs.map fun c => (c + 1) / 2
/-- A bump of a symbol that is there. -/
def bumpOf (cs : List Int) (s : Nat) : List Int :=
  if 65536 < isum cs + 32 then halveOf (cs.set s (cs.getD s 0 + 32)) else cs.set s (cs.getD s 0 + 32)
theorem halveOf_sum : ∀ (l : List Int), (∀ x ∈ l, 1 ≤ x) → isum l ≤ 2 * isum (halveOf l) ∧ 2 * isum (halveOf l) ≤ isum l + l.length
  | [], _ => by simp [isum, halveOf]
  | x :: l, h => by
    have h1 := h x (by simp)
    have h2 := halveOf_sum l (fun y hy => h y (by simp [hy]))
    unfold halveOf at h2 ⊢
    simp only [List.map_cons, isum, List.length_cons]
    omega
theorem getD_get {l : List Int} {i : Nat} (h : i < l.length) : l.getD i 0 = l[i] := by
  rw [List.getD, List.getElem?_eq_getElem h]; rfl
theorem bumpOf_length (cs : List Int) (s : Nat) : (bumpOf cs s).length = cs.length := by
  unfold bumpOf halveOf; split <;> simp
theorem set_pos {cs : List Int} {s : Nat} {v : Int} (hp : ∀ y ∈ cs, 1 ≤ y) (hv : 1 ≤ v) : ∀ y ∈ cs.set s v, 1 ≤ y := by
  intro y hy
  rcases List.mem_or_eq_of_mem_set hy with h | h
  · exact hp y h
  · omega
theorem bump_sum {cs : List Int} {s : Nat} (hs : s < cs.length) : isum (cs.set s (cs.getD s 0 + 32)) = isum cs + 32 := by
  rw [isum_set hs, getD_get hs]; omega
theorem bumpOf_ok {cs : List Int} {s : Nat} (h : Vt cs) (hs : s < cs.length) : Vt (bumpOf cs s) := by
  obtain ⟨h1, h2, h3, h4⟩ := h
  have hl := bumpOf_length cs s
  have hm := h3 _ (List.getElem_mem hs)
  have hp := set_pos (cs := cs) (s := s) (v := cs.getD s 0 + 32) h3 (by rw [getD_get hs]; omega)
  have hsum := bump_sum hs
  refine ⟨by omega, by omega, ?_, ?_⟩
  · unfold bumpOf
    split
    · intro y hy
      simp only [halveOf, List.mem_map] at hy
      obtain ⟨z, hz, rfl⟩ := hy
      have := hp z hz
      omega
    · exact hp
  · unfold bumpOf
    split
    · have h5 := halveOf_sum _ hp
      rw [List.length_set] at h5
      omega
    · omega

end Go.Proofs.Ytglinpclcmmnbaa
