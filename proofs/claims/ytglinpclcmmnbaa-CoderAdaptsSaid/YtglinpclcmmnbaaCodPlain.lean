/- Digits and intervals: plain. -/
import Derived.Test.YtglinpclcmmnbaaSepStep
namespace Go.Proofs.Ytglinpclcmmnbaa

/-- The digits of a number, base 256, the highest first. -/
def digs : Nat → Nat → List Nat
  | 0, _ => []
  | k + 1, n => digs k (n / 256) ++ [n % 256]
theorem digs_length : ∀ k n, (digs k n).length = k
  | 0, _ => rfl
  | k + 1, n => by simp [digs, digs_length k]
theorem digs_lt : ∀ k n, ∀ d ∈ digs k n, d < 256
  | 0, _, d, h => by cases h
  | k + 1, n, d, h => by
    simp only [digs, List.mem_append, List.mem_singleton] at h
    rcases h with h | rfl
    · exact digs_lt k _ d h
    · omega
/-- The number of digits. -/
def valD (l : List Nat) : Nat := l.foldl (fun a d => a * 256 + d) 0
theorem valD_snoc (l : List Nat) (d : Nat) : valD (l ++ [d]) = valD l * 256 + d := by simp [valD]
theorem valD_digs : ∀ k n, valD (digs k n) = n % 256 ^ k
  | 0, n => by simp [digs, valD, Nat.mod_one]
  | k + 1, n => by
    rw [digs, valD_snoc, valD_digs k, Nat.pow_succ, Nat.mul_comm (256 ^ k) 256, Nat.mod_mul]
    omega
theorem digs_valD (l : List Nat) (h : ∀ d ∈ l, d < 256) : digs l.length (valD l) = l := by
  obtain ⟨n, hn⟩ : ∃ n, n = l.length := ⟨_, rfl⟩
  induction n generalizing l with
  | zero => rw [List.length_eq_zero_iff.1 hn.symm]; rfl
  | succ n ih =>
    have hne : l ≠ [] := fun e => by rw [e] at hn; simp at hn
    have e := List.dropLast_concat_getLast hne
    have hl : l.dropLast.length = n := by rw [List.length_dropLast]; omega
    have hd : l.getLast hne < 256 := h _ (List.getLast_mem hne)
    have := ih l.dropLast (fun d hd => h d (List.dropLast_subset l hd)) hl.symm
    rw [← e, List.length_append, valD_snoc]
    show digs (l.dropLast.length + 1) _ = _
    rw [digs]
    have e1 : (valD l.dropLast * 256 + l.getLast hne) / 256 = valD l.dropLast := by omega
    have e2 : (valD l.dropLast * 256 + l.getLast hne) % 256 = l.getLast hne := by omega
    rw [e1, e2, this]
theorem valD_lt (l : List Nat) (h : ∀ d ∈ l, d < 256) : valD l < 256 ^ l.length := by
  rw [← digs_valD l h, valD_digs, digs_length]
  exact Nat.mod_lt _ (Nat.pow_pos (by decide))
theorem digs_add (a : Nat) : ∀ b n, digs (a + b) n = digs a (n / 256 ^ b) ++ digs b n
  | 0, n => by simp [digs]
  | b + 1, n => by
    show digs (a + b) (n / 256) ++ [n % 256] = _
    rw [digs_add a b, digs, Nat.div_div_eq_div_mul, Nat.pow_succ, Nat.mul_comm 256, List.append_assoc]
theorem digs_take {k j : Nat} (h : j ≤ k) (n : Nat) : (digs k n).take j = digs j (n / 256 ^ (k - j)) := by
  have := digs_add j (k - j) n
  rw [show j + (k - j) = k by omega] at this
  rw [this, List.take_left' (digs_length _ _)]
theorem digs_drop {k j : Nat} (h : j ≤ k) (n : Nat) : (digs k n).drop j = digs (k - j) n := by
  have := digs_add j (k - j) n
  rw [show j + (k - j) = k by omega] at this
  rw [this, List.drop_left' (digs_length _ _)]
theorem digs_mod (k n : Nat) : digs k (n % 256 ^ k) = digs k n := by
  have := digs_valD (digs k n) (digs_lt k n)
  rw [digs_length, valD_digs] at this
  exact this
theorem digs_get {k i : Nat} (h : i < k) (n : Nat) : (digs k n)[i]? = some (n / 256 ^ (k - 1 - i) % 256) := by
  have h1 := digs_take (show i + 1 ≤ k by omega) n
  have h2 : ((digs k n).take (i + 1))[i]? = (digs k n)[i]? := by rw [List.getElem?_take_of_lt (by omega)]
  rw [← h2, h1, digs, List.getElem?_append_right (by rw [digs_length]; omega), digs_length, Nat.sub_self]
  rw [show k - (i + 1) = k - 1 - i by omega]
  rfl
theorem digs_zeros : ∀ t x, digs t (x * 256 ^ t) = List.replicate t 0
  | 0, _ => rfl
  | t + 1, x => by
    have e1 : x * 256 ^ (t + 1) / 256 = x * 256 ^ t := by rw [Nat.pow_succ, ← Nat.mul_assoc]; exact Nat.mul_div_cancel _ (by decide)
    have e2 : x * 256 ^ (t + 1) % 256 = 0 := by rw [Nat.pow_succ, ← Nat.mul_assoc]; exact Nat.mul_mod_left _ _
    rw [digs, e1, e2, digs_zeros t, List.replicate_succ']

/-- One more: what a carry does. -/
theorem digs_carry {k t O : Nat} (ht : t < k) (h1 : O % 256 ^ t = 256 ^ t - 1) (h2 : O / 256 ^ t % 256 ≠ 255) :
    digs k (O + 1) = digs (k - t - 1) (O / 256 ^ (t + 1)) ++ [O / 256 ^ t % 256 + 1] ++ List.replicate t 0 := by
  have hp : 0 < 256 ^ t := Nat.pow_pos (by decide)
  obtain ⟨m, hm⟩ : ∃ m, m = O / 256 ^ t := ⟨_, rfl⟩
  have hO : O + 1 = (m + 1) * 256 ^ t := by
    have := Nat.div_add_mod O (256 ^ t)
    rw [h1, ← hm, Nat.mul_comm] at this
    rw [Nat.add_mul, Nat.one_mul]
    omega
  rw [← hm] at h2 ⊢
  have e := digs_add (k - t) t (O + 1)
  rw [show k - t + t = k by omega, hO, digs_zeros, Nat.mul_div_cancel _ hp] at e
  rw [hO, e, show k - t = (k - t - 1) + 1 by omega, digs]
  have e1 : (m + 1) / 256 = m / 256 := by omega
  have e2 : (m + 1) % 256 = m % 256 + 1 := by omega
  have e3 : m / 256 = O / 256 ^ (t + 1) := by rw [hm, Nat.div_div_eq_div_mul, Nat.pow_succ]
  rw [e1, e2, e3]
  rfl
theorem digs_ones {t O : Nat} (h1 : O % 256 ^ t = 256 ^ t - 1) (h2 : O / 256 ^ t % 256 = 255) : O % 256 ^ (t + 1) = 256 ^ (t + 1) - 1 := by
  have hp : 0 < 256 ^ t := Nat.pow_pos (by decide)
  rw [Nat.pow_succ, Nat.mod_mul, h1, h2]
  omega
theorem digs_split {k t : Nat} (ht : t < k) (O : Nat) : digs (k - t) (O / 256 ^ t) = digs (k - t - 1) (O / 256 ^ (t + 1)) ++ [O / 256 ^ t % 256] := by
  conv => lhs; rw [show k - t = (k - t - 1) + 1 by omega]
  rw [digs, Nat.div_div_eq_div_mul, Nat.pow_succ]

/-- How many digits an interval of a width brings. -/
def shS (R : Nat) : Nat := if 16777216 ≤ R then 0 else if 65536 ≤ R then 1 else if 256 ≤ R then 2 else 3
theorem shS_spec {R : Nat} (h1 : 1 ≤ R) (h2 : R ≤ 4294967296) : shS R ≤ 3 ∧ 16777216 ≤ R * 256 ^ shS R ∧ R * 256 ^ shS R ≤ 4294967296 := by
  unfold shS
  split
  · simp; omega
  · split
    · simp; omega
    · split
      · simp; omega
      · simp; omega
theorem shS_step {R : Nat} (h : R < 16777216) (h0 : R ≠ 0) : shS R = shS (R * 256) + 1 := by
  unfold shS
  repeat' split
  all_goals omega

/-- An interval: L and R, of k + 4 digits. -/
def Iv (k L R : Nat) : Prop := 16777216 ≤ R ∧ R ≤ 4294967296 ∧ L + R ≤ 256 ^ (k + 4)

end Go.Proofs.Ytglinpclcmmnbaa
