/- Words of letters: plain. -/
import Derived.Test.YtmihlbecmagmbaaSepStep
namespace Go.Proofs.Ytmihlbecmagmbaa

/-- A letter. -/
inductive Lt where
  | C | S | R | L | E
def kindOf (c : UInt8) : Option Lt :=
  if c.toNat = 67 then some .C else if c.toNat = 83 then some .S else if c.toNat = 82 then some .R else if c.toNat = 76 then some .L else if c.toNat = 69 then some .E else none
def Lt.takes : Lt → Nat
  | .E => 0
  | .S => 2
  | _ => 1

/-- What a letter does to the lengths of the words that stand behind it. -/
def stepI : Lt → List Int → Option (List Int)
  | .E, s => some (3 :: s)
  | .C, x :: s => some ((x - 1) :: s)
  | .R, x :: s => some ((x + 1) :: s)
  | .L, x :: s => some ((x + 1) :: s)
  | .S, x :: y :: s => some ((x + y - 1) :: s)
  | _, _ => none
/-- The lengths of the words that letters are, ahead of others. -/
def st : List UInt8 → List Int → Option (List Int)
  | [], i => some i
  | c :: l, i => (kindOf c).bind fun k => (st l i).bind (stepI k)
/-- How many words are missing behind letters. -/
def miss : Nat → List UInt8 → Option Nat
  | m, [] => some m
  | m, c :: l => match kindOf c with
    | none => none
    | some k => if m = 0 then none else miss (m - 1 + k.takes) l
def goodB : List UInt8 → List Int → Bool
  | [], _ => true
  | c :: l, i => goodB l i && (match st (c :: l) i with | some (x :: _) => decide (3 ≤ x) | _ => false)
/-- A right word. -/
def rightB (l : List UInt8) : Bool := decide (st l [] = some [3]) && goodB l []

/-- The program's spans. -/
def popS : List (Int × Bool) → (Int × Bool) × List (Int × Bool)
  | [] => ((3, true), [])
  | x :: s => (x, s)
def wordS : Lt → List (Int × Bool) → (Int × Bool) × List (Int × Bool)
  | .E, s => ((3, false), s)
  | .C, s => (((if (popS s).1.2 then max ((popS s).1.1 - 1) 3 else (popS s).1.1 - 1), (popS s).1.2), (popS s).2)
  | .S, s => (((popS s).1.1 + (popS (popS s).2).1.1 - 1, (popS s).1.2 || (popS (popS s).2).1.2), (popS (popS s).2).2)
  | _, s => (((popS s).1.1 + 1, (popS s).1.2), (popS s).2)
def stk : List UInt8 → Option (List (Int × Bool))
  | [] => some []
  | c :: l => (kindOf c).bind fun k => (stk l).bind fun s => if (wordS k s).1.1 < 3 then none else some ((wordS k s).1 :: (wordS k s).2)
def begB (l : List UInt8) : Bool := match stk l with
  | none => false
  | some s => decide (l = []) || (decide (s.length = 1) && decide ((s.headD (0, false)).1 = 3))

theorem st_cons {c : UInt8} {l : List UInt8} {i t : List Int} : st (c :: l) i = some t ↔ ∃ k s, kindOf c = some k ∧ st l i = some s ∧ stepI k s = some t := by
  simp [st, Option.bind_eq_some_iff]
theorem st_append : ∀ (a b : List UInt8) (i : List Int), st (a ++ b) i = (st b i).bind (st a)
  | [], b, i => by cases h : st b i <;> simp [st, h]
  | c :: a, b, i => by
    simp only [List.cons_append, st, st_append a b i]
    cases kindOf c <;> cases st b i <;> rfl
theorem goodB_append : ∀ (a b : List UInt8) (i j : List Int), st b i = some j → goodB (a ++ b) i = (goodB b i && goodB a j)
  | [], b, i, j, _ => by simp [goodB]
  | c :: a, b, i, j, h => by
    have e : st (c :: (a ++ b)) i = st (c :: a) j := by
      have := st_append (c :: a) b i
      rw [h] at this
      exact this
    simp only [List.cons_append, goodB, goodB_append a b i j h, e, Bool.and_assoc]
theorem st_tail {a b : List UInt8} {i t : List Int} (h : st (a ++ b) i = some t) : ∃ j, st b i = some j ∧ st a j = some t := by
  rw [st_append] at h
  exact Option.bind_eq_some_iff.1 h

/-- What a letter makes of lengths, by the letter. -/
theorem stepI_len {k : Lt} {s t : List Int} (h : stepI k s = some t) : t ≠ [] ∧ s.length = t.length - 1 + k.takes := by
  cases k <;> rcases s with _ | ⟨x, _ | ⟨y, s⟩⟩ <;> simp [stepI] at h <;> subst h <;> simp [Lt.takes]
theorem stepI_some {k : Lt} {s : List Int} (h : k.takes ≤ s.length) : ∃ t, stepI k s = some t ∧ t.length = s.length - k.takes + 1 := by
  cases k <;> rcases s with _ | ⟨x, _ | ⟨y, s⟩⟩ <;> simp [stepI, Lt.takes] at h ⊢
theorem st_ne {c : UInt8} {l : List UInt8} {i t : List Int} (h : st (c :: l) i = some t) : t ≠ [] := by
  obtain ⟨k, s, _, _, h3⟩ := st_cons.1 h
  exact (stepI_len h3).1

theorem miss_st : ∀ (l : List UInt8) (m0 m : Nat) (i : List Int), miss m0 l = some m → i.length = m → ∃ t, st l i = some t ∧ t.length = m0
  | [], m0, m, i, h, hi => by
    simp [miss] at h
    exact ⟨i, rfl, by omega⟩
  | c :: l, m0, m, i, h, hi => by
    simp only [miss] at h
    cases hk : kindOf c with
    | none => rw [hk] at h; simp at h
    | some k =>
      rw [hk] at h
      simp only at h
      split at h
      · cases h
      · obtain ⟨s, h1, h2⟩ := miss_st l _ m i h hi
        obtain ⟨t, h3, h4⟩ := stepI_some (k := k) (s := s) (by omega)
        exact ⟨t, st_cons.2 ⟨k, s, hk, h1, h3⟩, by omega⟩
theorem st_miss : ∀ (l : List UInt8) (i t : List Int), st l i = some t → miss t.length l = some i.length
  | [], i, t, h => by simp [st] at h; subst h; rfl
  | c :: l, i, t, h => by
    obtain ⟨k, s, h1, h2, h3⟩ := st_cons.1 h
    obtain ⟨h4, h5⟩ := stepI_len h3
    have := st_miss l i s h2
    have hp : t.length ≠ 0 := fun e => h4 (List.length_eq_zero_iff.1 e)
    simp only [miss, h1, if_neg hp]
    rw [← h5]; exact this
theorem miss_append : ∀ (a b : List UInt8) (m n : Nat), miss m (a ++ b) = some n → ∃ j, miss m a = some j ∧ miss j b = some n
  | [], b, m, n, h => ⟨m, rfl, h⟩
  | c :: a, b, m, n, h => by
    simp only [List.cons_append, miss] at h ⊢
    cases hk : kindOf c with
    | none => rw [hk] at h; simp at h
    | some k =>
      rw [hk] at h
      simp only at h ⊢
      split at h
      · cases h
      · rename_i h0
        obtain ⟨j, h1, h2⟩ := miss_append a b _ n h
        exact ⟨j, by rw [if_neg h0]; exact h1, h2⟩
theorem miss_append_of : ∀ (a b : List UInt8) (m j : Nat), miss m a = some j → miss m (a ++ b) = miss j b
  | [], b, m, j, h => by simp [miss] at h; subst h; rfl
  | c :: a, b, m, j, h => by
    simp only [List.cons_append, miss] at h ⊢
    cases hk : kindOf c with
    | none => rw [hk] at h; simp at h
    | some k =>
      rw [hk] at h
      simp only at h ⊢
      split at h
      · cases h
      · rename_i h0
        rw [if_neg h0]
        exact miss_append_of a b _ j h

/-- The spans' number. -/
theorem popS_len (s : List (Int × Bool)) : (popS s).2.length = s.length - 1 := by cases s <;> simp [popS]
theorem wordS_len (k : Lt) (s : List (Int × Bool)) : (wordS k s).2.length = s.length - k.takes := by
  cases k <;> simp [wordS, Lt.takes, popS_len]; omega
theorem stk_cons {c : UInt8} {l : List UInt8} {s : List (Int × Bool)} : stk (c :: l) = some s ↔ ∃ k u, kindOf c = some k ∧ stk l = some u ∧ 3 ≤ (wordS k u).1.1 ∧ s = (wordS k u).1 :: (wordS k u).2 := by
  simp only [stk, Option.bind_eq_some_iff]
  constructor
  · rintro ⟨k, h1, u, h2, h3⟩
    split at h3
    · cases h3
    · exact ⟨k, u, h1, h2, by omega, (Option.some.inj h3).symm⟩
  · rintro ⟨k, u, h1, h2, h3, rfl⟩
    exact ⟨k, h1, u, h2, by rw [if_neg (by omega)]⟩
theorem stk_miss : ∀ (l : List UInt8) (s : List (Int × Bool)) (m0 : Nat), stk l = some s → s.length ≤ m0 → ∃ m, miss m0 l = some m
  | [], _, m0, _, _ => ⟨m0, rfl⟩
  | c :: l, s, m0, h, hm => by
    obtain ⟨k, u, h1, h2, _, rfl⟩ := stk_cons.1 h
    have hl := wordS_len k u
    simp only [List.length_cons] at hm
    obtain ⟨m, h3⟩ := stk_miss l u (m0 - 1 + k.takes) h2 (by omega)
    exact ⟨m, by simp only [miss, h1]; rw [if_neg (by omega)]; exact h3⟩

theorem good_cons {c : UInt8} {l : List UInt8} {i : List Int} : goodB (c :: l) i = true ↔ goodB l i = true ∧ ∃ x t, st (c :: l) i = some (x :: t) ∧ 3 ≤ x := by
  simp only [goodB, Bool.and_eq_true]
  refine and_congr_right fun _ => ?_
  cases st (c :: l) i with
  | none => simp
  | some t => cases t <;> simp
theorem good_all : ∀ (l : List UInt8) (i t : List Int), goodB l i = true → st l i = some t → (∀ x ∈ i, (3 : Int) ≤ x) → ∀ x ∈ t, 3 ≤ x
  | [], i, t, _, h, hi => by simp [st] at h; subst h; exact hi
  | c :: l, i, t, hg, h, hi => by
    obtain ⟨hg1, x, t', hx, h3⟩ := good_cons.1 hg
    obtain ⟨k, s, h1, h2, h4⟩ := st_cons.1 h
    have ih := good_all l i s hg1 h2 hi
    rw [h] at hx
    obtain rfl := Option.some.inj hx
    intro y hy
    rcases List.mem_cons.1 hy with rfl | hy
    · exact h3
    refine ih y ?_
    cases k <;> rcases s with _ | ⟨a, _ | ⟨b, s⟩⟩ <;> simp [stepI] at h4 <;> (obtain ⟨_, rfl⟩ := h4; simp_all)

/-- Spans, and the lengths that words have by some end. -/
def RelA (i : List Int) : List (Int × Bool) → List Int → Prop
  | [], t => t = i
  | [(n, true)], x :: r => n ≤ x ∧ ∀ y ∈ r, (3 : Int) ≤ y
  | (n, false) :: s, x :: t => x = n ∧ RelA i s t
  | _, _ => False

theorem begins_of : ∀ (l : List UInt8) (i t : List Int), (∀ x ∈ i, (3 : Int) ≤ x) → goodB l i = true → st l i = some t → ∃ s, stk l = some s ∧ RelA i s t
  | [], i, t, _, _, h => ⟨[], rfl, (Option.some.inj h).symm⟩
  | c :: l, i, t, hi, hg, h => by
    obtain ⟨hg1, x', t', hx, h3⟩ := good_cons.1 hg
    obtain ⟨k, u, h1, h2, h4⟩ := st_cons.1 h
    rw [h] at hx
    obtain rfl := Option.some.inj hx
    obtain ⟨s, hs, hr⟩ := begins_of l i u hi hg1 h2
    suffices H : 3 ≤ (wordS k s).1.1 ∧ RelA i ((wordS k s).1 :: (wordS k s).2) (x' :: t') from ⟨_, stk_cons.2 ⟨k, s, h1, hs, H.1, rfl⟩, H.2⟩
    have hmem : ∀ x r, x :: r = i → 3 ≤ x ∧ ∀ y ∈ r, 3 ≤ y := fun x r e => ⟨hi x (e ▸ List.mem_cons_self ..), fun y hy => hi y (e ▸ List.mem_cons_of_mem _ hy)⟩
    cases k with
    | E =>
      simp only [stepI, Option.some.injEq, List.cons.injEq] at h4
      obtain ⟨rfl, rfl⟩ := h4
      exact ⟨by simp [wordS], rfl, hr⟩
    | C =>
      rcases u with _ | ⟨x, r⟩ <;> simp [stepI] at h4
      obtain ⟨rfl, rfl⟩ := h4
      rcases s with _ | ⟨⟨n, _ | _⟩, s⟩
      · obtain ⟨h5, h6⟩ := hmem x r hr
        simp only [wordS, popS, if_true]
        exact ⟨by decide, by show (max (3 - 1) 3 : Int) ≤ x - 1; omega, h6⟩
      · obtain ⟨rfl, hr⟩ := hr
        simp only [wordS, popS, Bool.false_eq_true, if_false]
        exact ⟨h3, rfl, hr⟩
      · rcases s with _ | ⟨z, s⟩
        · obtain ⟨h5, h6⟩ := hr
          simp only [wordS, popS, if_true]
          exact ⟨by omega, by show max (n - 1) 3 ≤ x - 1; omega, h6⟩
        · exact hr.elim
    | R =>
      rcases u with _ | ⟨x, r⟩ <;> simp [stepI] at h4
      obtain ⟨rfl, rfl⟩ := h4
      rcases s with _ | ⟨⟨n, _ | _⟩, s⟩
      · obtain ⟨h5, h6⟩ := hmem x r hr
        simp only [wordS, popS]
        exact ⟨by decide, by show (3 + 1 : Int) ≤ x + 1; omega, h6⟩
      · obtain ⟨rfl, hr⟩ := hr
        simp only [wordS, popS]
        exact ⟨h3, rfl, hr⟩
      · rcases s with _ | ⟨z, s⟩
        · obtain ⟨h5, h6⟩ := hr
          have := stk_ge hs _ (List.mem_cons_self ..)
          simp only [wordS, popS]
          exact ⟨by simp only at this; omega, by show n + 1 ≤ x + 1; omega, h6⟩
        · exact hr.elim
    | L =>
      rcases u with _ | ⟨x, r⟩ <;> simp [stepI] at h4
      obtain ⟨rfl, rfl⟩ := h4
      rcases s with _ | ⟨⟨n, _ | _⟩, s⟩
      · obtain ⟨h5, h6⟩ := hmem x r hr
        simp only [wordS, popS]
        exact ⟨by decide, by show (3 + 1 : Int) ≤ x + 1; omega, h6⟩
      · obtain ⟨rfl, hr⟩ := hr
        simp only [wordS, popS]
        exact ⟨h3, rfl, hr⟩
      · rcases s with _ | ⟨z, s⟩
        · obtain ⟨h5, h6⟩ := hr
          have := stk_ge hs _ (List.mem_cons_self ..)
          simp only [wordS, popS]
          exact ⟨by simp only at this; omega, by show n + 1 ≤ x + 1; omega, h6⟩
        · exact hr.elim
    | S =>
      rcases u with _ | ⟨x, _ | ⟨y, r⟩⟩ <;> simp [stepI] at h4
      obtain ⟨rfl, rfl⟩ := h4
      rcases s with _ | ⟨⟨n, _ | _⟩, s⟩
      · obtain ⟨h5, h6⟩ := hmem x _ hr
        have h7 := h6 y (List.mem_cons_self ..)
        simp only [wordS, popS]
        exact ⟨by decide, by show (3 + 3 - 1 : Int) ≤ x + y - 1; omega, fun z hz => h6 z (List.mem_cons_of_mem _ hz)⟩
      · obtain ⟨rfl, hr⟩ := hr
        have hge := stk_ge hs _ (List.mem_cons_self ..)
        rcases s with _ | ⟨⟨m, _ | _⟩, s⟩
        · obtain ⟨h5, h6⟩ := hmem y r hr
          simp only [wordS, popS]
          exact ⟨by simp only at hge; omega, by show (x + 3 - 1 : Int) ≤ x + y - 1; omega, h6⟩
        · obtain ⟨rfl, hr⟩ := hr
          simp only [wordS, popS]
          exact ⟨h3, rfl, hr⟩
        · rcases s with _ | ⟨z, s⟩
          · obtain ⟨h5, h6⟩ := hr
            have hge2 := stk_ge hs _ (List.mem_cons_of_mem _ (List.mem_cons_self ..))
            simp only [wordS, popS]
            exact ⟨by simp only at hge hge2; omega, by show (x + m - 1 : Int) ≤ x + y - 1; omega, h6⟩
          · exact hr.elim
      · rcases s with _ | ⟨z, s⟩
        · obtain ⟨h5, h6⟩ := hr
          have hge := stk_ge hs _ (List.mem_cons_self ..)
          have h7 := h6 y (List.mem_cons_self ..)
          simp only [wordS, popS]
          exact ⟨by simp only at hge; omega, by show (n + 3 - 1 : Int) ≤ x + y - 1; omega, fun z hz => h6 z (List.mem_cons_of_mem _ hz)⟩
        · exact hr.elim
where stk_ge : ∀ {l : List UInt8} {s : List (Int × Bool)}, stk l = some s → ∀ x ∈ s, 3 ≤ x.1
  | [], s, h, x, hx => by simp [stk] at h; subst h; cases hx
  | c :: l, s, h, x, hx => by
    obtain ⟨k, u, h1, h2, h3, rfl⟩ := stk_cons.1 h
    rcases List.mem_cons.1 hx with rfl | hx
    · exact h3
    refine stk_ge h2 x ?_
    cases k <;> rcases u with _ | ⟨a, _ | ⟨b, u⟩⟩ <;> simp [wordS, popS] at hx ⊢ <;> simp [hx]

end Go.Proofs.Ytmihlbecmagmbaa
