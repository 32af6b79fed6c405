/- Permutations: plain: turned, one behind another. -/
import Derived.Test.YticeolbagfaofaaOrdPlain
namespace Go.Proofs.Yticeolbagfaofaa

def rightB (l : List Int) : Bool := decide ((∀ x ∈ l, 0 ≤ x ∧ x < l.length) ∧ l.Nodup)
theorem rightB_iff {l : List Int} : rightB l = true ↔ rightP l := by unfold rightB rightP; exact decide_eq_true_iff

/-- The numbers below n. -/
def numsL (n : Nat) : List Int := (List.range n).map Int.ofNat
theorem numsL_length (n : Nat) : (numsL n).length = n := by simp [numsL]
theorem numsL_mem {n : Nat} {x : Int} : x ∈ numsL n ↔ 0 ≤ x ∧ x < n := by
  simp only [numsL, List.mem_map, List.mem_range]
  constructor
  · rintro ⟨k, hk, rfl⟩
    exact ⟨Int.natCast_nonneg k, Int.ofNat_lt.2 hk⟩
  · rintro ⟨h0, h1⟩
    exact ⟨x.toNat, by omega, Int.toNat_of_nonneg h0⟩
theorem numsL_get {n i : Nat} (h : i < n) : (numsL n)[i]? = some (i : Int) := by
  simp [numsL, h]
theorem numsL_succ (n : Nat) : numsL (n + 1) = numsL n ++ [(n : Int)] := by
  simp [numsL, List.range_succ]
theorem numsL_sorted (n : Nat) : (numsL n).Pairwise (· < ·) := by
  unfold numsL
  rw [List.pairwise_map]
  exact List.pairwise_lt_range.imp (fun h => Int.ofNat_lt.2 h)
theorem sorted_nodup {l : List Int} (h : l.Pairwise (· < ·)) : l.Nodup := h.imp (fun h => by omega)

theorem nodup_length : ∀ {l m : List Int}, l.Nodup → (∀ x ∈ l, x ∈ m) → l.length ≤ m.length
  | [], _, _, _ => Nat.zero_le _
  | x :: l, m, hn, hs => by
    have h1 := List.nodup_cons.1 hn
    have hm : x ∈ m := hs x List.mem_cons_self
    have h2 := nodup_length (l := l) (m := m.erase x) h1.2 (fun y hy => by
      have hne : y ≠ x := fun h => h1.1 (h ▸ hy)
      exact (List.mem_erase_of_ne hne).2 (hs y (List.mem_cons_of_mem _ hy)))
    have h3 := List.length_erase_of_mem hm
    have h4 : 0 < m.length := List.length_pos_of_mem hm
    rw [List.length_cons]; omega

/-- All numbers come in a permutation. -/
theorem right_all {l : List Int} (h : rightP l) {j : Int} (h0 : 0 ≤ j) (h1 : j < l.length) : j ∈ l := by
  apply Decidable.byContradiction
  intro hc
  have := nodup_length (l := j :: l) (m := numsL l.length) (List.nodup_cons.2 ⟨hc, h.2⟩) (fun x hx => by
    rcases List.mem_cons.1 hx with hx | hx
    · subst hx; exact numsL_mem.2 ⟨h0, h1⟩
    · exact numsL_mem.2 (h.1 x hx))
  rw [List.length_cons, numsL_length] at this
  omega

theorem nodup_perm : ∀ {l m : List Int}, l.Nodup → m.Nodup → (∀ x, x ∈ l ↔ x ∈ m) → l.Perm m
  | [], m, _, _, h => by
    have : m = [] := List.eq_nil_iff_forall_not_mem.2 (fun x hx => by have := (h x).2 hx; simp at this)
    subst this; exact List.Perm.nil
  | x :: l, m, hl, hm, h => by
    have h1 := List.nodup_cons.1 hl
    have hx : x ∈ m := (h x).1 List.mem_cons_self
    have hp : m.Perm (x :: m.erase x) := List.perm_cons_erase hx
    have ih := nodup_perm (l := l) (m := m.erase x) h1.2 (hm.erase x) (fun y => by
      constructor
      · intro hy
        have hne : y ≠ x := fun e => h1.1 (e ▸ hy)
        exact (List.mem_erase_of_ne hne).2 ((h y).1 (List.mem_cons_of_mem _ hy))
      · intro hy
        have hne : y ≠ x := fun e => by
          subst e
          exact (hm.not_mem_erase) hy
        have hy2 := (List.mem_erase_of_ne hne).1 hy
        rcases List.mem_cons.1 ((h y).2 hy2) with e | e
        · exact absurd e hne
        · exact e)
    exact (ih.cons x).trans hp.symm

/-- A permutation is what all numbers are, in another order. -/
theorem right_perm {l : List Int} (h : rightP l) : (numsL l.length).Perm l :=
  nodup_perm (sorted_nodup (numsL_sorted _)) h.2 (fun x => by
    rw [numsL_mem]
    exact ⟨fun hx => right_all h hx.1 hx.2, fun hx => h.1 x hx⟩)

/-- Turned: where each number lies. -/
def invL (p : List Int) : List Int := (List.range p.length).map fun (j : Nat) => ((p.idxOf (j : Int) : Nat) : Int)
theorem invL_length (p : List Int) : (invL p).length = p.length := by simp [invL]
theorem invL_get {p : List Int} {j : Nat} (h : j < p.length) : (invL p)[j]? = some ((p.idxOf (j : Int) : Nat) : Int) := by simp [invL, h]
/-- One behind another. -/
def afterL (p q : List Int) : List Int := p.map fun x => q.getD x.toNat 0
theorem afterL_length (p q : List Int) : (afterL p q).length = p.length := by simp [afterL]

theorem idxOf_get {p : List Int} (h : p.Nodup) {i : Nat} (hi : i < p.length) : p.idxOf p[i] = i := by
  have hlt : p.idxOf p[i] < p.length := List.idxOf_lt_length_of_mem (List.getElem_mem hi)
  have he : p[p.idxOf p[i]] = p[i] := List.getElem_idxOf hlt
  exact (List.getElem_inj h).1 he

/-- The turned one sends each number where it came from. -/
theorem inv_at {p : List Int} (h : rightP p) {i : Nat} (hi : i < p.length) : (invL p).getD p[i].toNat 0 = i := by
  have hr := h.1 _ (List.getElem_mem hi)
  have hk : p[i].toNat < p.length := by omega
  rw [List.getD, invL_get hk, Int.toNat_of_nonneg hr.1, idxOf_get h.2 hi]; rfl
theorem inv_back {p : List Int} (h : rightP p) {j : Nat} (hj : j < p.length) : ∃ k : Nat, (invL p)[j]? = some (k : Int) ∧ k < p.length ∧ p[k]? = some (j : Int) := by
  have hm := right_all h (j := (j : Int)) (by omega) (by omega)
  have hlt := List.idxOf_lt_length_of_mem hm
  refine ⟨p.idxOf (j : Int), invL_get hj, hlt, ?_⟩
  rw [List.getElem?_eq_getElem hlt]
  exact congrArg some (List.getElem_idxOf hlt)
theorem inv_right {p : List Int} (h : rightP p) : rightP (invL p) := by
  constructor
  · intro x hx
    obtain ⟨j, hj⟩ := List.getElem?_of_mem hx
    have hjl : j < p.length := by
      apply Nat.lt_of_not_le
      intro hc
      rw [List.getElem?_eq_none (by rw [invL_length]; exact hc)] at hj; cases hj
    obtain ⟨k, hk, hk2, -⟩ := inv_back h hjl
    rw [hk] at hj
    have e : (k : Int) = x := by simpa using hj
    rw [← e, invL_length]
    omega
  · unfold invL
    rw [List.nodup_iff_pairwise_ne, List.pairwise_map]
    refine List.pairwise_lt_range.imp_of_mem ?_
    intro a b ha hb hab he
    have ha' := List.mem_range.1 ha
    have hb' := List.mem_range.1 hb
    have h1 := List.getElem_idxOf (List.idxOf_lt_length_of_mem (right_all h (j := (a : Int)) (by omega) (by omega)))
    have h2 := List.getElem_idxOf (List.idxOf_lt_length_of_mem (right_all h (j := (b : Int)) (by omega) (by omega)))
    have e : p.idxOf (a : Int) = p.idxOf (b : Int) := by omega
    have h3 : ((a : Nat) : Int) = (b : Nat) := by
      rw [← h1, ← h2]
      congr 1
    omega
theorem inv_inv {p : List Int} (h : rightP p) : invL (invL p) = p := by
  apply List.ext_getElem?
  intro i
  by_cases hi : i < p.length
  · have hr := h.1 _ (List.getElem_mem hi)
    rw [invL_get (by rw [invL_length]; exact hi), List.getElem?_eq_getElem hi]
    have hk : p[i].toNat < (invL p).length := by rw [invL_length]; omega
    have e : (invL p)[p[i].toNat] = (i : Int) := by
      have := inv_at h hi
      rw [List.getD, List.getElem?_eq_getElem hk] at this
      exact this
    have := idxOf_get (inv_right h).2 hk
    rw [e] at this
    rw [this, Int.toNat_of_nonneg hr.1]
  · rw [List.getElem?_eq_none (by rw [invL_length, invL_length]; omega), List.getElem?_eq_none (by omega)]
theorem after_get {p q : List Int} {i : Nat} (hi : i < p.length) : (afterL p q)[i]? = some (q.getD p[i].toNat 0) := by
  simp [afterL, hi]
theorem after_inv {p : List Int} (h : rightP p) {i : Nat} (hi : i < p.length) : (afterL p (invL p))[i]? = some (i : Int) := by
  rw [after_get hi, inv_at h hi]
theorem inv_after {p : List Int} (h : rightP p) {i : Nat} (hi : i < p.length) : (afterL (invL p) p)[i]? = some (i : Int) := by
  obtain ⟨k, hk, hk2, hk3⟩ := inv_back h hi
  have hi2 : i < (invL p).length := by rw [invL_length]; exact hi
  have e : (invL p)[i] = (k : Int) := by rw [List.getElem?_eq_getElem hi2] at hk; simpa using hk
  rw [after_get hi2, e, Int.toNat_natCast, List.getD, hk3]; rfl
theorem after_right {p q : List Int} (hp : rightP p) (hq : rightP q) (hl : q.length = p.length) : rightP (afterL p q) := by
  constructor
  · intro x hx
    simp only [afterL, List.mem_map] at hx
    obtain ⟨y, hy, rfl⟩ := hx
    have hr := hp.1 y hy
    have hk : y.toNat < q.length := by omega
    rw [List.getD, List.getElem?_eq_getElem hk, afterL_length]
    have := hq.1 _ (List.getElem_mem hk)
    simp only [Option.getD_some]
    omega
  · unfold afterL
    rw [List.nodup_iff_pairwise_ne, List.pairwise_map]
    refine (List.nodup_iff_pairwise_ne.1 hp.2).imp_of_mem ?_
    intro a b ha hb hab he
    have hra := hp.1 a ha
    have hrb := hp.1 b hb
    have hka : a.toNat < q.length := by omega
    have hkb : b.toNat < q.length := by omega
    rw [List.getD, List.getD, List.getElem?_eq_getElem hka, List.getElem?_eq_getElem hkb] at he
    simp only [Option.getD_some] at he
    have := (List.getElem_inj hq.2).1 he
    omega
theorem after_assoc {p q r : List Int} (hp : rightP p) (hl : q.length = p.length) : afterL (afterL p q) r = afterL p (afterL q r) := by
  unfold afterL
  rw [List.map_map]
  apply List.map_congr_left
  intro x hx
  have hr := hp.1 x hx
  have hk : x.toNat < q.length := by omega
  simp only [Function.comp]
  rw [List.getD, List.getD, List.getD, List.getElem?_eq_getElem hk, List.getElem?_map, List.getElem?_eq_getElem hk]
  rfl

end Go.Proofs.Yticeolbagfaofaa
