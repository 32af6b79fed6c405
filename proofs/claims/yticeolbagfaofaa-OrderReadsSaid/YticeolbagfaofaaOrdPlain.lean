/- Permutations: plain. -/
import Derived.Test.YticeolbagfaofaaNumPlain
import Derived.Test.YticeolbagfaofaaValBits
namespace Go.Proofs.Yticeolbagfaofaa

/-- Is it a permutation of the numbers below its length? -/
def rightP (l : List Int) : Prop := (∀ x ∈ l, 0 ≤ x ∧ x < l.length) ∧ l.Nodup
/-- How many are less. -/
def lessN (l : List Int) (x : Int) : Nat := l.countP (fun y => decide (y < x))
/-- The bits of a row of numbers: of each, how many of those behind it are less. -/
def encB : List Int → List Bool
  | [] => []
  | x :: l => valBits (lessN l x) (widthN ((l.length + 1 : Nat) : Int)) ++ encB l

theorem lessN_perm {l m : List Int} (h : l.Perm m) (x : Int) : lessN l x = lessN m x := h.countP_eq _

/-- In a row that rises, what is less lies ahead. -/
theorem lessN_sorted : ∀ {l : List Int} {i : Nat} {x : Int}, l.Pairwise (· < ·) → l[i]? = some x → lessN l x = i
  | [], i, x, _, h => by simp at h
  | y :: l, 0, x, hp, h => by
    simp at h
    subst h
    have h1 := (List.pairwise_cons.1 hp).1
    unfold lessN
    rw [List.countP_cons_of_neg (by simp), List.countP_eq_zero]
    intro z hz
    have := h1 z hz
    simp; omega
  | y :: l, i + 1, x, hp, h => by
    have h2 : l[i]? = some x := by simpa using h
    have h1 := (List.pairwise_cons.1 hp).1
    have hm : x ∈ l := List.mem_of_getElem? h2
    have h3 := h1 x hm
    have ih := lessN_sorted (List.pairwise_cons.1 hp).2 h2
    unfold lessN at ih ⊢
    rw [List.countP_cons_of_pos (by simpa using h3), ih]

/-- Without one of its numbers it still rises. -/
theorem sorted_erase {l : List Int} (h : l.Pairwise (· < ·)) (i : Nat) : (l.eraseIdx i).Pairwise (· < ·) := h.sublist (List.eraseIdx_sublist _ _)

theorem perm_erase {l m : List Int} {i : Nat} {x : Int} (h : l.Perm (x :: m)) (hx : l[i]? = some x) : (l.eraseIdx i).Perm m := by
  have hi : i < l.length := by
    apply Nat.lt_of_not_le
    intro hc
    rw [List.getElem?_eq_none hc] at hx; cases hx
  have e : l = l.take i ++ x :: l.drop (i + 1) := by
    have h1 : l[i] = x := by rw [List.getElem?_eq_getElem hi] at hx; simpa using hx
    rw [← h1, List.getElem_cons_drop hi, List.take_append_drop]
  have h2 : l.Perm (x :: (l.take i ++ l.drop (i + 1))) := by
    conv => lhs; rw [e]
    exact List.perm_middle
  rw [List.eraseIdx_eq_take_drop_succ]
  exact (List.perm_cons x).1 (h2.symm.trans h)

/-- Where a number lies in a row that rises. -/
theorem sorted_at {l m : List Int} {x : Int} (hs : l.Pairwise (· < ·)) (h : l.Perm (x :: m)) : l[lessN m x]? = some x := by
  have hm : x ∈ l := h.symm.subset (List.mem_cons_self)
  obtain ⟨i, hi⟩ := List.getElem?_of_mem hm
  have h1 := lessN_sorted hs hi
  have h2 : lessN l x = lessN m x := by
    rw [lessN_perm h]
    unfold lessN
    rw [List.countP_cons_of_neg (by simp)]
  rw [← h2, h1]; exact hi

/-- What is read: of n numbers that are left, by bits: the row, how many bits, the error's number. -/
def decR : Nat → List Int → List Bool → List Int × Nat × Nat
  | 0, _, _ => ([], 0, 0)
  | n + 1, L, bs =>
    if bs.length < widthN ((n + 1 : Nat) : Int) then ([], 0, 4)
    else if n + 1 ≤ ofBits (bs.take (widthN ((n + 1 : Nat) : Int))) then ([], 0, 3)
    else
      let r := decR n (L.eraseIdx (ofBits (bs.take (widthN ((n + 1 : Nat) : Int))))) (bs.drop (widthN ((n + 1 : Nat) : Int)))
      if r.2.2 = 0 then (L.getD (ofBits (bs.take (widthN ((n + 1 : Nat) : Int)))) 0 :: r.1, widthN ((n + 1 : Nat) : Int) + r.2.1, 0) else ([], 0, r.2.2)

theorem lessN_le (l : List Int) (x : Int) : lessN l x ≤ l.length := List.countP_le_length

/-- There and back. -/
theorem decR_encB : ∀ (p : List Int) (L : List Int) (rest : List Bool), p.length ≤ 1000000 → L.Pairwise (· < ·) → L.Perm p → decR p.length L (encB p ++ rest) = (p, (encB p).length, 0)
  | [], _, _, _, _, _ => rfl
  | x :: p, L, rest, hl, hs, hp => by
    have hle := lessN_le p x
    simp only [List.length_cons] at hl
    have hw : lessN p x < 2 ^ widthN ((p.length + 1 : Nat) : Int) := widthN_lt (by omega) (by omega)
    have ih := decR_encB p (L.eraseIdx (lessN p x)) rest (by omega) (sorted_erase hs _) (perm_erase hp (sorted_at hs hp))
    have ht : (encB (x :: p) ++ rest).take (widthN ((p.length + 1 : Nat) : Int)) = valBits (lessN p x) (widthN ((p.length + 1 : Nat) : Int)) := by
      rw [encB, List.append_assoc, List.take_left' (by rw [valBits_length])]
    have hd : (encB (x :: p) ++ rest).drop (widthN ((p.length + 1 : Nat) : Int)) = encB p ++ rest := by
      rw [encB, List.append_assoc, List.drop_left' (by rw [valBits_length])]
    have hlen : (encB (x :: p)).length = widthN ((p.length + 1 : Nat) : Int) + (encB p).length := by
      rw [encB, List.length_append, valBits_length]
    rw [List.length_cons, decR, if_neg (by rw [List.length_append, hlen]; omega), ht, ofBits_valBits _ _ hw, if_neg (by omega), hd, ih]
    simp only [if_true]
    rw [hlen, List.getD, sorted_at hs hp]
    rfl

/-- How many bits all widths are. -/
def costN : Nat → Nat
  | 0 => 0
  | n + 1 => costN n + widthN ((n + 1 : Nat) : Int)
theorem encB_length : ∀ p : List Int, (encB p).length = costN p.length
  | [] => rfl
  | x :: p => by
    rw [encB, List.length_append, valBits_length, encB_length p, List.length_cons, costN]; omega
theorem costN_mono {m n : Nat} (h : m ≤ n) : costN m ≤ costN n := by
  induction n with
  | zero => have : m = 0 := by omega
            subst this; exact Nat.le_refl _
  | succ n ih =>
    by_cases hm : m = n + 1
    · subst hm; exact Nat.le_refl _
    · have := ih (by omega)
      rw [costN]; omega
theorem costN_le (n : Nat) (hn : n ≤ 1000000) : costN n ≤ 63 * n := by
  induction n with
  | zero => exact Nat.le_refl _
  | succ n ih =>
    have := ih (by omega)
    have hw := widthN_le (b := ((n + 1 : Nat) : Int)) (by omega)
    rw [costN]; omega
/-- The bounds of one width. -/
theorem widthN_at {w m : Nat} (hw : w + 1 ≤ 62) (h1 : 2 ^ w < m) (h2 : m ≤ 2 ^ (w + 1)) : widthN (m : Int) = w + 1 := by
  have hp : 1 ≤ 2 ^ w := Nat.one_le_two_pow
  have h64 : (2 : Nat) ^ (w + 1) ≤ 2 ^ 62 := Nat.pow_le_pow_right (by omega) hw
  have h62 : (2 : Nat) ^ 62 = 4611686018427387904 := by decide +kernel
  have h3 := two64
  unfold widthN
  rw [if_neg (by omega)]
  have e : ((m : Int) - 1).toNat = m - 1 := by omega
  rw [e]
  have a1 := bitLen_le (x := m - 1) (k := w + 1) (by omega) (by omega)
  have a2 := bitLen_lt (x := m - 1) (by omega)
  have a3 : ¬ Lib.bitLen (m - 1) ≤ w := fun hc => by
    have := Nat.pow_le_pow_right (n := 2) (by omega) hc
    omega
  omega
theorem costN_width {w : Nat} (hw : w + 1 ≤ 62) : ∀ n : Nat, 2 ^ w ≤ n → n ≤ 2 ^ (w + 1) → costN n = costN (2 ^ w) + (w + 1) * (n - 2 ^ w) := by
  intro n
  induction n with
  | zero => intro h1 _; have : 1 ≤ 2 ^ w := Nat.one_le_two_pow
            omega
  | succ n ih =>
    intro h1 h2
    by_cases h : 2 ^ w = n + 1
    · rw [← h, Nat.sub_self, Nat.mul_zero, Nat.add_zero]
    · have e := ih (by omega) (by omega)
      have hs : n + 1 - 2 ^ w = (n - 2 ^ w) + 1 := by omega
      rw [costN, e, widthN_at hw (by omega) h2, hs, Nat.mul_add, Nat.mul_one, Nat.add_assoc]

end Go.Proofs.Yticeolbagfaofaa
