/- Words that begin right, and where one is wrong: plain. -/
import Derived.Test.YtmihlbecmagmbaaWordPlain2
namespace Go.Proofs.Ytmihlbecmagmbaa

theorem rightB_iff {l : List UInt8} : rightB l = true ↔ st l [] = some [3] ∧ goodB l [] = true := by simp [rightB]

theorem st_es : ∀ m : Nat, st (List.replicate m 69) [] = some (List.replicate m 3) ∧ goodB (List.replicate m 69) [] = true
  | 0 => ⟨rfl, rfl⟩
  | m + 1 => by
    obtain ⟨h1, h2⟩ := st_es m
    have h3 : st (List.replicate (m + 1) 69) [] = some (3 :: List.replicate m 3) := by
      rw [List.replicate_succ]
      exact st_cons.2 ⟨.E, _, by rfl, h1, rfl⟩
    refine ⟨h3, ?_⟩
    rw [List.replicate_succ] at h3 ⊢
    exact good_cons.2 ⟨h2, 3, _, h3, by decide⟩
theorem st_ls (x : Int) (r : List Int) (hx : 3 ≤ x) : ∀ k : Nat, st (List.replicate k 76) (x :: r) = some ((x + k) :: r) ∧ goodB (List.replicate k 76) (x :: r) = true
  | 0 => ⟨by simp [st], rfl⟩
  | k + 1 => by
    obtain ⟨h1, h2⟩ := st_ls x r hx k
    have h3 : st (List.replicate (k + 1) 76) (x :: r) = some ((x + (k + 1 : Nat)) :: r) := by
      rw [List.replicate_succ]
      exact st_cons.2 ⟨.L, _, by rfl, h1, by simp [stepI]; omega⟩
    refine ⟨h3, ?_⟩
    rw [List.replicate_succ] at h3 ⊢
    exact good_cons.2 ⟨h2, _, _, h3, by omega⟩
/-- What the reference puts behind letters of which m words are missing. -/
def rest (k m : Nat) : List UInt8 := List.replicate k 76 ++ List.replicate m 69
theorem st_rest (k m : Nat) (hm : m ≠ 0) : st (rest k m) [] = some (initK k m) ∧ goodB (rest k m) [] = true := by
  obtain ⟨h1, h2⟩ := st_es m
  obtain ⟨j, rfl⟩ : ∃ j, m = j + 1 := ⟨m - 1, by omega⟩
  rw [List.replicate_succ (a := (3 : Int))] at h1
  obtain ⟨h3, h4⟩ := st_ls 3 (List.replicate j 3) (by decide) k
  unfold rest
  refine ⟨?_, ?_⟩
  · rw [st_append, h1]
    simp only [Option.bind_some, h3, initK]
    rw [show (3 : Int) + (k : Int) = (k : Int) + 3 by omega]
  · rw [goodB_append _ _ _ _ h1, h2, h4]; rfl

theorem stk_ne {c : UInt8} {l : List UInt8} {s : List (Int × Bool)} (h : stk (c :: l) = some s) : s ≠ [] := by
  obtain ⟨_, _, _, _, _, rfl⟩ := stk_cons.1 h
  simp

theorem beg_of_right {l v : List UInt8} (h : rightB (l ++ v) = true) : begB l = true := by
  obtain ⟨h1, h2⟩ := rightB_iff.1 h
  obtain ⟨i, h3, h4⟩ := st_tail h1
  rw [goodB_append _ _ _ _ h3, Bool.and_eq_true] at h2
  have hi := good_all v [] i h2.1 h3 (fun x hx => by cases hx)
  obtain ⟨s, h5, h6⟩ := begins_of l i [3] hi h2.2 h4
  unfold begB
  rw [h5]
  simp only [Bool.or_eq_true, decide_eq_true_eq, Bool.and_eq_true]
  cases l with
  | nil => exact .inl rfl
  | cons c l =>
    refine .inr ?_
    have hge := begins_of.stk_ge h5
    rcases s with _ | ⟨⟨n, _ | _⟩, s⟩
    · exact absurd rfl (stk_ne h5)
    · obtain ⟨rfl, h7⟩ := h6
      have hs : s = [] := by
        rcases s with _ | ⟨⟨m, _ | _⟩, _ | ⟨y, s⟩⟩
        · rfl
        · exact h7.elim
        · exact h7.elim
        · exact h7.elim
        · exact h7.elim
      subst hs
      exact ⟨rfl, rfl⟩
    · rcases s with _ | ⟨y, s⟩
      · have := hge _ (List.mem_cons_self ..)
        obtain ⟨h7, _⟩ := h6
        refine ⟨rfl, ?_⟩
        simp only [List.headD_cons] at this ⊢
        omega
      · exact h6.elim

theorem right_of_beg {l : List UInt8} (h : begB l = true) : ∃ m, miss 1 l = some m ∧ (m = 0 → rightB l = true) ∧ (m ≠ 0 → ∃ k, k ≤ l.length ∧ rightB (l ++ rest k m) = true) := by
  unfold begB at h
  cases hs : stk l with
  | none => rw [hs] at h; cases h
  | some s =>
    rw [hs] at h
    simp only [Bool.or_eq_true, decide_eq_true_eq, Bool.and_eq_true] at h
    cases l with
    | nil => exact ⟨1, rfl, (fun e => absurd e (by decide)), (fun _ => ⟨0, Nat.le_refl _, by decide⟩)⟩
    | cons c l =>
      obtain ⟨h1, h2⟩ := h.resolve_left (by simp)
      obtain ⟨m, hm⟩ := stk_miss _ s 1 hs (by omega)
      obtain ⟨K, hK, hK0, H⟩ := begins_to _ s 1 m hs hm
      obtain ⟨g1, t, g2, g3⟩ := H K (Nat.le_refl _)
      obtain ⟨t2, f1, f2⟩ := miss_st _ 1 m (initK K m) hm (initK_len K m)
      rw [g2] at f1
      obtain rfl := Option.some.inj f1
      have ht : t = [3] := by
        rcases s with _ | ⟨⟨n, b⟩, s⟩
        · simp at h1
        simp only [List.length_cons] at h1
        obtain rfl : s = [] := List.length_eq_zero_iff.1 (by omega)
        simp only [List.headD_cons] at h2
        subst h2
        rcases t with _ | ⟨x, t⟩
        · simp at f2
        simp only [List.length_cons] at f2
        obtain rfl : t = [] := List.length_eq_zero_iff.1 (by omega)
        cases b with
        | false => obtain ⟨rfl, _⟩ := g3; rfl
        | true => obtain ⟨e1, _⟩ := g3; rw [e1]; simp
      subst ht
      refine ⟨m, hm, fun e => ?_, fun e => ⟨K, hK, ?_⟩⟩
      · subst e; exact rightB_iff.2 ⟨g2, g1⟩
      · obtain ⟨e1, e2⟩ := st_rest K m e
        refine rightB_iff.2 ⟨?_, ?_⟩
        · rw [st_append, e1]; exact g2
        · rw [goodB_append _ _ _ _ e1, e2, g1]; rfl

theorem beg_mono {a b : List UInt8} (h : begB (a ++ b) = true) : begB a = true := by
  obtain ⟨m, _, h1, h2⟩ := right_of_beg h
  by_cases hm : m = 0
  · exact beg_of_right (h1 hm)
  · obtain ⟨k, _, h3⟩ := h2 hm
    rw [List.append_assoc] at h3
    exact beg_of_right h3
theorem right_beg {l : List UInt8} (h : rightB l = true) : begB l = true := beg_of_right (v := []) (by rw [List.append_nil]; exact h)
theorem right_miss {l : List UInt8} (h : rightB l = true) : miss 1 l = some 0 := st_miss l [] [3] (rightB_iff.1 h).1
/-- A word that begins right and misses nothing is right. -/
theorem beg_right {l : List UInt8} (h : begB l = true) (hm : miss 1 l = some 0) : rightB l = true := by
  obtain ⟨m, h1, h2, _⟩ := right_of_beg h
  rw [hm] at h1
  exact h2 (Option.some.inj h1).symm

/-- The reference's answer. -/
def begR (l : List UInt8) : Bool := match miss 1 l with
  | none => false
  | some m => if m = 0 then rightB l else (List.range (l.length + 2)).any fun k => rightB (l ++ rest k m)
theorem begR_eq (l : List UInt8) : begR l = begB l := by
  rw [Bool.eq_iff_iff]
  unfold begR
  constructor
  · intro h
    cases hm : miss 1 l with
    | none => rw [hm] at h; cases h
    | some m =>
      rw [hm] at h
      simp only at h
      split at h
      · exact right_beg h
      · simp only [List.any_eq_true] at h
        obtain ⟨k, _, h⟩ := h
        exact beg_of_right h
  · intro h
    obtain ⟨m, h1, h2, h3⟩ := right_of_beg h
    rw [h1]
    simp only
    split
    · exact h2 (by assumption)
    · obtain ⟨k, hk, h4⟩ := h3 (by assumption)
      simp only [List.any_eq_true, List.mem_range]
      exact ⟨k, by omega, h4⟩

/-- The first place at which it is wrong. -/
def leastK (l : List UInt8) : Nat := ((List.range l.length).find? fun k => !begB (l.take (k + 1))).getD l.length
def leastI (l : List UInt8) : Int := if rightB l then -1 else (leastK l : Int)
theorem leastK_of {l : List UInt8} {r : Nat} (h1 : r ≤ l.length) (h2 : ∀ i, i < r → begB (l.take (i + 1)) = true) (h3 : r < l.length → begB (l.take (r + 1)) = false) : leastK l = r := by
  unfold leastK
  by_cases h : r < l.length
  · have : (List.range l.length).find? (fun k => !begB (l.take (k + 1))) = some r := by
      rw [List.find?_range_eq_some]
      exact ⟨by simp [h3 h], List.mem_range.2 h, fun j hj => by simp [h2 j hj]⟩
    rw [this]; rfl
  · have : (List.range l.length).find? (fun k => !begB (l.take (k + 1))) = none := by
      rw [List.find?_range_eq_none]
      exact fun j hj => by simp [h2 j (by omega)]
    rw [this]
    show l.length = r
    omega
theorem leastK_spec (l : List UInt8) : leastK l ≤ l.length ∧ (∀ i, i < leastK l → begB (l.take (i + 1)) = true) ∧ (leastK l < l.length → begB (l.take (leastK l + 1)) = false) := by
  unfold leastK
  cases h : (List.range l.length).find? fun k => !begB (l.take (k + 1)) with
  | none =>
    rw [List.find?_range_eq_none] at h
    refine ⟨Nat.le_refl _, fun i hi => ?_, fun hi => absurd hi (Nat.lt_irrefl _)⟩
    have := h i hi
    simpa using this
  | some r =>
    rw [List.find?_range_eq_some] at h
    obtain ⟨h1, h2, h3⟩ := h
    refine ⟨Nat.le_of_lt (List.mem_range.1 h2), fun i hi => ?_, fun _ => by simpa using h1⟩
    have := h3 i hi
    simpa using this

end Go.Proofs.Ytmihlbecmagmbaa
