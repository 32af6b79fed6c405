/- Opening bytes as bits: plain. -/
import Derived.Test.YtmihlbecmagmbaaPlain2
namespace Go.Proofs.Ytmihlbecmagmbaa

/-- The bits of bytes. -/
def allBits (bs : List Nat) : List Bool := bs.flatMap fun x => valBits x 8

theorem allBits_nil : allBits [] = [] := rfl
theorem allBits_cons (x : Nat) (bs : List Nat) : allBits (x :: bs) = valBits x 8 ++ allBits bs := rfl
theorem allBits_append (a b : List Nat) : allBits (a ++ b) = allBits a ++ allBits b := by simp [allBits]
theorem allBits_length (bs : List Nat) : (allBits bs).length = 8 * bs.length := by
  induction bs with
  | nil => rfl
  | cons x bs ih => rw [allBits_cons, List.length_append, valBits_length, ih, List.length_cons]; omega

theorem allBits_get (bs : List Nat) (j r : Nat) (hr : r < 8) (hj : j < bs.length) : (allBits bs).getD (8 * j + r) false = bs[j].testBit (7 - r) := by
  induction bs generalizing j with
  | nil => simp at hj
  | cons x bs ih =>
    rw [allBits_cons]
    cases j with
    | zero =>
      simp only [List.getElem_cons_zero, Nat.mul_zero, Nat.zero_add, List.getD]
      rw [List.getElem?_append_left (by rw [valBits_length]; exact hr)]
      simp [valBits, hr]
    | succ j =>
      have hl : (valBits x 8).length ≤ 8 * (j + 1) + r := by rw [valBits_length]; omega
      simp only [List.getElem_cons_succ, List.getD]
      rw [List.getElem?_append_right hl, valBits_length]
      have e : 8 * (j + 1) + r - 8 = 8 * j + r := by omega
      rw [e]
      exact ih j (by simpa using hj)

theorem bit_all (bs : List Nat) (j r : Nat) (hr : r < 8) (hj : j < bs.length) : bit (allBits bs) (8 * j + r) = bs[j] / 2 ^ (7 - r) % 2 := by
  unfold bit
  rw [allBits_get bs j r hr hj, Nat.testBit_eq_decide_div_mod_eq]
  rcases Nat.mod_two_eq_zero_or_one (bs[j] / 2 ^ (7 - r)) with h | h <;> simp [h]

theorem byte_of_bits (x : Nat) (h : x < 256) : 128 * (x / 2 ^ 7 % 2) + 64 * (x / 2 ^ 6 % 2) + 32 * (x / 2 ^ 5 % 2) + 16 * (x / 2 ^ 4 % 2) + 8 * (x / 2 ^ 3 % 2) + 4 * (x / 2 ^ 2 % 2) + 2 * (x / 2 ^ 1 % 2) + x / 2 ^ 0 % 2 = x := by
  simp; omega

theorem byteAt_all (bs : List Nat) (j : Nat) (hj : j < bs.length) (hb : bs[j] < 256) : byteAt (allBits bs) j = bs[j] := by
  unfold byteAt
  have e0 := bit_all bs j 0 (by omega) hj
  rw [Nat.add_zero] at e0
  rw [e0, bit_all bs j 1 (by omega) hj, bit_all bs j 2 (by omega) hj, bit_all bs j 3 (by omega) hj, bit_all bs j 4 (by omega) hj, bit_all bs j 5 (by omega) hj, bit_all bs j 6 (by omega) hj, bit_all bs j 7 (by omega) hj]
  exact byte_of_bits _ hb

theorem pk_all (bs : List Nat) (hb : ∀ x ∈ bs, x < 256) : pk (allBits bs) = bs := by
  apply List.ext_getElem?
  intro j
  have e : ((allBits bs).length + 7) / 8 = bs.length := by rw [allBits_length]; omega
  unfold pk
  rw [e]
  by_cases hj : j < bs.length
  · rw [pkN_getElem? _ _ _ hj, List.getElem?_eq_getElem hj, byteAt_all bs j hj (hb _ (List.getElem_mem hj))]
  · rw [List.getElem?_eq_none (by rw [pkN_length]; omega), List.getElem?_eq_none (by omega)]

theorem bit_take (l : List Bool) (n i : Nat) : bit (l.take n) i = if i < n then bit l i else 0 := by
  unfold bit
  by_cases h : i < n
  · simp [List.getD, h]
  · rw [if_neg h, List.getD, List.getElem?_take, if_neg h]; rfl

/-- Are all bits from n on 0? -/
def restZero (l : List Bool) (n : Nat) : Prop := ∀ i, n ≤ i → bit l i = 0

theorem byteAt_take (l : List Bool) (n j : Nat) (h : restZero l n) : byteAt (l.take n) j = byteAt l j := by
  have e : ∀ i, bit (l.take n) i = bit l i := fun i => by
    rw [bit_take]; split
    · rfl
    · exact (h i (by omega)).symm
  unfold byteAt
  simp only [e]

theorem pk_take (bs : List Nat) (n : Nat) (hb : ∀ x ∈ bs, x < 256) (hl : bs.length = (n + 7) / 8) (h : restZero (allBits bs) n) : pk ((allBits bs).take n) = bs := by
  have h1 := pk_all bs hb
  unfold pk at h1 ⊢
  have e1 : ((allBits bs).length + 7) / 8 = bs.length := by rw [allBits_length]; omega
  have e2 : (((allBits bs).take n).length + 7) / 8 = bs.length := by rw [List.length_take, allBits_length]; omega
  rw [e1] at h1
  rw [e2]
  refine Eq.trans ?_ h1
  unfold pkN
  exact List.map_congr_left fun j _ => byteAt_take _ _ _ h

theorem low_bits (x m : Nat) (hm : m ≤ 8) (hx : x < 256) (h : x % 2 ^ (8 - m) = 0) (k : Nat) (hk : k < 8 - m) : x / 2 ^ k % 2 = 0 := by
  have h2 : m = 0 ∨ m = 1 ∨ m = 2 ∨ m = 3 ∨ m = 4 ∨ m = 5 ∨ m = 6 ∨ m = 7 ∨ m = 8 := by omega
  have h3 : k = 0 ∨ k = 1 ∨ k = 2 ∨ k = 3 ∨ k = 4 ∨ k = 5 ∨ k = 6 ∨ k = 7 := by omega
  rcases h2 with rfl | rfl | rfl | rfl | rfl | rfl | rfl | rfl | rfl <;> simp at h hk <;> rcases h3 with rfl | rfl | rfl | rfl | rfl | rfl | rfl | rfl <;> simp at hk ⊢ <;> omega

theorem shl_low (x m : Nat) (hm : m < 8) (h : x * 2 ^ m % 256 = 0) : x % 2 ^ (8 - m) = 0 := by
  rcases (by omega : m = 0 ∨ m = 1 ∨ m = 2 ∨ m = 3 ∨ m = 4 ∨ m = 5 ∨ m = 6 ∨ m = 7) with rfl | rfl | rfl | rfl | rfl | rfl | rfl | rfl <;> simp at h ⊢ <;> omega
theorem low_shl (x m : Nat) (hm : m < 8) (h : x % 2 ^ (8 - m) = 0) : x * 2 ^ m % 256 = 0 := by
  rcases (by omega : m = 0 ∨ m = 1 ∨ m = 2 ∨ m = 3 ∨ m = 4 ∨ m = 5 ∨ m = 6 ∨ m = 7) with rfl | rfl | rfl | rfl | rfl | rfl | rfl | rfl <;> simp at h ⊢ <;> omega

/-- The last byte's test is the test of all bits behind. -/
theorem restZero_iff (bs : List Nat) (n : Nat) (hb : ∀ x ∈ bs, x < 256) (hl : bs.length = (n + 7) / 8) :
    restZero (allBits bs) n ↔ (n % 8 = 0 ∨ bs.getD (n / 8) 0 * 2 ^ (n % 8) % 256 = 0) := by
  constructor
  · intro h
    by_cases h8 : n % 8 = 0
    · exact .inl h8
    · right
      have hj : n / 8 < bs.length := by omega
      have hx : bs[n / 8] < 256 := hb _ (List.getElem_mem hj)
      have hg : bs.getD (n / 8) 0 = bs[n / 8] := by simp [List.getD, List.getElem?_eq_getElem hj]
      rw [hg]
      refine low_shl _ _ (by omega) ?_
      have hz : ∀ r, n % 8 ≤ r → r < 8 → bs[n / 8] / 2 ^ (7 - r) % 2 = 0 := fun r h1 h2 => by
        rw [← bit_all bs (n / 8) r h2 hj]; exact h _ (by omega)
      have hs := byte_of_bits _ hx
      generalize bs[n / 8] = x at *
      have hm : n % 8 < 8 := by omega
      have hm0 : n % 8 ≠ 0 := h8
      generalize n % 8 = m at *
      have z7 := hz 7 (by omega) (by omega)
      rcases (by omega : m = 1 ∨ m = 2 ∨ m = 3 ∨ m = 4 ∨ m = 5 ∨ m = 6 ∨ m = 7) with rfl | rfl | rfl | rfl | rfl | rfl | rfl
      · have := hz 6 (by omega) (by omega); have := hz 5 (by omega) (by omega); have := hz 4 (by omega) (by omega); have := hz 3 (by omega) (by omega); have := hz 2 (by omega) (by omega); have := hz 1 (by omega) (by omega); simp at *; omega
      · have := hz 6 (by omega) (by omega); have := hz 5 (by omega) (by omega); have := hz 4 (by omega) (by omega); have := hz 3 (by omega) (by omega); have := hz 2 (by omega) (by omega); simp at *; omega
      · have := hz 6 (by omega) (by omega); have := hz 5 (by omega) (by omega); have := hz 4 (by omega) (by omega); have := hz 3 (by omega) (by omega); simp at *; omega
      · have := hz 6 (by omega) (by omega); have := hz 5 (by omega) (by omega); have := hz 4 (by omega) (by omega); simp at *; omega
      · have := hz 6 (by omega) (by omega); have := hz 5 (by omega) (by omega); simp at *; omega
      · have := hz 6 (by omega) (by omega); simp at *; omega
      · simp at *; omega
  · intro h i hi
    by_cases hin : i < 8 * bs.length
    · have e : i = 8 * (i / 8) + i % 8 := by omega
      have hj : i / 8 < bs.length := by omega
      have hx : bs[i / 8] < 256 := hb _ (List.getElem_mem hj)
      rw [e, bit_all bs _ _ (by omega) hj]
      have hn8 : n % 8 ≠ 0 := by omega
      have hq : i / 8 = n / 8 := by omega
      have h2 := h.resolve_left hn8
      have hg : bs.getD (n / 8) 0 = bs[i / 8] := by
        have hj2 : n / 8 < bs.length := by omega
        simp only [hq, List.getD, List.getElem?_eq_getElem hj2]; rfl
      rw [hg] at h2
      exact low_bits _ (n % 8) (by omega) hx (shl_low _ _ (by omega) h2) _ (by omega)
    · exact bit_out _ _ (by rw [allBits_length]; omega)

/-- What NewReader tells of bytes and a number of bits: an error's number, or the bits. -/
def openBits (bs : List Nat) (n : Int) : Nat × List Bool :=
  if n < 0 ∨ 33554432 < n then (2, [])
  else if bs.length < (n.toNat + 7) / 8 then (4, [])
  else if (n.toNat + 7) / 8 < bs.length then (5, [])
  else if n.toNat % 8 ≠ 0 ∧ bs.getD (n.toNat / 8) 0 * 2 ^ (n.toNat % 8) % 256 ≠ 0 then (3, [])
  else (0, (allBits bs).take n.toNat)

theorem openBits_ok {bs : List Nat} {n : Int} {l : List Bool} (hb : ∀ x ∈ bs, x < 256) (h : openBits bs n = (0, l)) : 0 ≤ n ∧ n ≤ 33554432 ∧ (l.length : Int) = n ∧ pk l = bs ∧ bs.length = (l.length + 7) / 8 ∧ l = (allBits bs).take l.length ∧ restZero (allBits bs) l.length := by
  unfold openBits at h
  by_cases h1 : n < 0 ∨ 33554432 < n
  · rw [if_pos h1] at h; simp at h
  rw [if_neg h1] at h
  by_cases h2 : bs.length < (n.toNat + 7) / 8
  · rw [if_pos h2] at h; simp at h
  rw [if_neg h2] at h
  by_cases h3 : (n.toNat + 7) / 8 < bs.length
  · rw [if_pos h3] at h; simp at h
  rw [if_neg h3] at h
  by_cases h4 : n.toNat % 8 ≠ 0 ∧ bs.getD (n.toNat / 8) 0 * 2 ^ (n.toNat % 8) % 256 ≠ 0
  · rw [if_pos h4] at h; simp at h
  rw [if_neg h4] at h
  simp only [Prod.mk.injEq, true_and] at h
  subst h
  have hl : bs.length = (n.toNat + 7) / 8 := by omega
  have hr : restZero (allBits bs) n.toNat := (restZero_iff bs n.toNat hb hl).2 (by omega)
  have hlen : ((allBits bs).take n.toNat).length = n.toNat := by rw [List.length_take, allBits_length]; omega
  rw [hlen]
  exact ⟨by omega, by omega, by omega, pk_take bs _ hb hl hr, hl, rfl, hr⟩

end Go.Proofs.Ytmihlbecmagmbaa
