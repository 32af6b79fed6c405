/- Bits as a list of Bool, and their byte form: plain facts, no program in sight. -/
namespace Go.Proofs.Ytmihlbecmagmbaa

theorem List.reverseRecOn' {α : Type} {motive : List α → Prop} (l : List α) (nil : motive []) (snoc : ∀ l x, motive l → motive (l ++ [x])) : motive l := by
  have h : ∀ r : List α, motive r.reverse := by
    intro r
    induction r with
    | nil => exact nil
    | cons x r ih => rw [List.reverse_cons]; exact snoc _ _ ih
  have := h l.reverse
  rwa [List.reverse_reverse] at this

/-- The bits of a value, the highest first. -/
def valBits (v n : Nat) : List Bool := (List.range n).map fun i => v.testBit (n - 1 - i)

theorem valBits_length (v n : Nat) : (valBits v n).length = n := by simp [valBits]

theorem valBits_take (v n i : Nat) (h : i < n) : (valBits v n).take (i + 1) = (valBits v n).take i ++ [v.testBit (n - 1 - i)] := by
  rw [List.take_succ_eq_append_getElem (by simpa [valBits] using h)]
  simp [valBits]

/-- Bit i as a number; behind the end 0. -/
def bit (l : List Bool) (i : Nat) : Nat := (l.getD i false).toNat
theorem bit_le (l : List Bool) (i : Nat) : bit l i ≤ 1 := Bool.toNat_le _
theorem bit_out (l : List Bool) (i : Nat) (h : l.length ≤ i) : bit l i = 0 := by
  unfold bit; simp [List.getD, List.getElem?_eq_none h]
theorem bit_snoc (l : List Bool) (x : Bool) (i : Nat) (h : i ≠ l.length) : bit (l ++ [x]) i = bit l i := by
  unfold bit
  by_cases h1 : i < l.length
  · simp [List.getD, List.getElem?_append_left h1]
  · simp [List.getD, List.getElem?_append_right (Nat.le_of_not_lt h1), List.getElem?_eq_none (Nat.le_of_not_lt h1), List.getElem?_eq_none (l := [x]) (i := i - l.length) (by simp; omega)]
theorem bit_last (l : List Bool) (x : Bool) : bit (l ++ [x]) l.length = x.toNat := by
  unfold bit; simp [List.getD]

/-- Byte j of the byte form. -/
def byteAt (l : List Bool) (j : Nat) : Nat :=
  128 * bit l (8 * j) + 64 * bit l (8 * j + 1) + 32 * bit l (8 * j + 2) + 16 * bit l (8 * j + 3) + 8 * bit l (8 * j + 4) + 4 * bit l (8 * j + 5) + 2 * bit l (8 * j + 6) + bit l (8 * j + 7)

theorem byteAt_lt (l : List Bool) (j : Nat) : byteAt l j < 256 := by
  unfold byteAt
  have h := bit_le l
  have := h (8 * j); have := h (8 * j + 1); have := h (8 * j + 2); have := h (8 * j + 3); have := h (8 * j + 4); have := h (8 * j + 5); have := h (8 * j + 6); have := h (8 * j + 7)
  omega

/-- The first m bytes. -/
def pkN (l : List Bool) (m : Nat) : List Nat := (List.range m).map (byteAt l)
/-- The byte form. -/
def pk (l : List Bool) : List Nat := pkN l ((l.length + 7) / 8)

theorem pkN_length (l : List Bool) (m : Nat) : (pkN l m).length = m := by simp [pkN]
theorem pk_length (l : List Bool) : (pk l).length = (l.length + 7) / 8 := by simp [pk, pkN]
theorem pkN_getElem? (l : List Bool) (m j : Nat) (h : j < m) : (pkN l m)[j]? = some (byteAt l j) := by simp [pkN, h]

theorem byteAt_out (l : List Bool) (j : Nat) (h : l.length ≤ 8 * j) : byteAt l j = 0 := by
  unfold byteAt
  rw [bit_out l _ (by omega), bit_out l _ (by omega), bit_out l _ (by omega), bit_out l _ (by omega), bit_out l _ (by omega), bit_out l _ (by omega), bit_out l _ (by omega), bit_out l _ (by omega)]

theorem pkN_succ (l : List Bool) (m : Nat) : pkN l (m + 1) = pkN l m ++ [byteAt l m] := by simp [pkN, List.range_succ]

theorem byteAt_snoc_other (l : List Bool) (x : Bool) (j : Nat) (h : j ≠ l.length / 8) : byteAt (l ++ [x]) j = byteAt l j := by
  unfold byteAt
  rw [bit_snoc l x _ (by omega), bit_snoc l x _ (by omega), bit_snoc l x _ (by omega), bit_snoc l x _ (by omega), bit_snoc l x _ (by omega), bit_snoc l x _ (by omega), bit_snoc l x _ (by omega), bit_snoc l x _ (by omega)]

/-- What a new bit adds to its byte: which is below 2^(8 - place) multiples, so 'or' is '+'. -/
theorem byteAt_snoc (l : List Bool) (x : Bool) : byteAt (l ++ [x]) (l.length / 8) = byteAt l (l.length / 8) + x.toNat * 2 ^ (7 - l.length % 8) := by
  unfold byteAt
  obtain ⟨q, hq⟩ : ∃ q, q = l.length / 8 := ⟨_, rfl⟩
  obtain ⟨r, hr⟩ : ∃ r, r = l.length % 8 := ⟨_, rfl⟩
  have hl : l.length = 8 * q + r := by omega
  rw [← hq, ← hr]
  have e : ∀ k, bit (l ++ [x]) (8 * q + k) = bit l (8 * q + k) + if k = r then x.toNat else 0 := by
    intro k
    by_cases h : k = r
    · subst h
      rw [if_pos rfl, ← hl, bit_last, bit_out l _ (Nat.le_refl _)]; omega
    · rw [if_neg h, bit_snoc l x _ (by omega)]; rfl
  have e0 := e 0
  rw [Nat.add_zero] at e0
  rw [e0, e 1, e 2, e 3, e 4, e 5, e 6, e 7]
  have : r < 8 := by omega
  rcases (by omega : r = 0 ∨ r = 1 ∨ r = 2 ∨ r = 3 ∨ r = 4 ∨ r = 5 ∨ r = 6 ∨ r = 7) with h | h | h | h | h | h | h | h <;> subst h <;> simp <;> omega

theorem byteAt_low (l : List Bool) : byteAt l (l.length / 8) % 2 ^ (8 - l.length % 8) = 0 := by
  unfold byteAt
  obtain ⟨q, hq⟩ : ∃ q, q = l.length / 8 := ⟨_, rfl⟩
  obtain ⟨r, hr⟩ : ∃ r, r = l.length % 8 := ⟨_, rfl⟩
  have hl : l.length = 8 * q + r := by omega
  rw [← hq, ← hr]
  have o : ∀ k, r ≤ k → bit l (8 * q + k) = 0 := fun k hk => bit_out l _ (by omega)
  have : r < 8 := by omega
  rcases (by omega : r = 0 ∨ r = 1 ∨ r = 2 ∨ r = 3 ∨ r = 4 ∨ r = 5 ∨ r = 6 ∨ r = 7) with h | h | h | h | h | h | h | h <;> subst h
  all_goals
    rw [o 7 (by omega)]
    try rw [o 6 (by omega)]
    try rw [o 5 (by omega)]
    try rw [o 4 (by omega)]
    try rw [o 3 (by omega)]
    try rw [o 2 (by omega)]
    try rw [o 1 (by omega)]
    try (have o0 := o 0 (by omega); rw [Nat.add_zero] at o0; rw [o0])
    try simp
    try omega

/-- 'or' of a byte with a bit that is not yet set. -/
theorem or_add (a x r : Nat) (h : a % 2 ^ (r + 1) = 0) (hx : x ≤ 1) : a ||| x * 2 ^ r = a + x * 2 ^ r := by
  have hlt : x * 2 ^ r < 2 ^ (r + 1) := by
    rw [Nat.pow_succ]
    have : x * 2 ^ r ≤ 1 * 2 ^ r := Nat.mul_le_mul_right _ hx
    have : 0 < 2 ^ r := Nat.two_pow_pos r
    omega
  obtain ⟨q, hq⟩ := Nat.dvd_of_mod_eq_zero h
  subst hq
  exact (Nat.two_pow_add_eq_or_of_lt hlt q).symm

theorem byteAt_or (l : List Bool) (x : Bool) : byteAt l (l.length / 8) ||| x.toNat * 2 ^ (7 - l.length % 8) = byteAt (l ++ [x]) (l.length / 8) := by
  rw [byteAt_snoc]
  refine or_add _ _ _ ?_ (by cases x <;> simp)
  have h := byteAt_low l
  have e : 7 - l.length % 8 + 1 = 8 - l.length % 8 := by omega
  rw [e]; exact h

/-- One bit more: the last byte alone is another one. -/
theorem pkN_snoc (l : List Bool) (x : Bool) : (pkN l (l.length / 8 + 1)).set (l.length / 8) (byteAt (l ++ [x]) (l.length / 8)) = pk (l ++ [x]) := by
  have e : ((l ++ [x]).length + 7) / 8 = l.length / 8 + 1 := by simp; omega
  unfold pk
  rw [e]
  apply List.ext_getElem?
  intro j
  rw [List.getElem?_set, pkN_length]
  by_cases h : l.length / 8 = j
  · subst h; simp [pkN]
  · simp only [h, if_false]
    by_cases hj : j < l.length / 8 + 1
    · rw [pkN_getElem? _ _ _ hj, pkN_getElem? _ _ _ hj, byteAt_snoc_other l x j (by omega)]
    · rw [List.getElem?_eq_none (by simp [pkN_length]; omega), List.getElem?_eq_none (by simp [pkN_length]; omega)]

theorem pk_full (l : List Bool) (h : l.length % 8 ≠ 0) : pk l = pkN l (l.length / 8 + 1) := by
  unfold pk; congr 1; omega
theorem pk_whole (l : List Bool) (h : l.length % 8 = 0) : pk l ++ [0] = pkN l (l.length / 8 + 1) := by
  have e : (l.length + 7) / 8 = l.length / 8 := by omega
  unfold pk
  rw [e, pkN_succ, byteAt_out l _ (by omega)]

theorem pk_len_whole (l : List Bool) (h : l.length % 8 = 0) : (pk l).length + 1 = l.length / 8 + 1 := by rw [pk_length]; omega
theorem pk_len_full (l : List Bool) (h : l.length % 8 ≠ 0) : (pk l).length = l.length / 8 + 1 := by rw [pk_length]; omega

theorem testBit_int (v k : Nat) : ((v : Int) / 2 ^ k) % 2 = ((v.testBit k).toNat : Int) := by
  rw [Nat.testBit_eq_decide_div_mod_eq]
  have e : (v : Int) / 2 ^ k = ((v / 2 ^ k : Nat) : Int) := by simp
  rw [e]
  rcases Nat.mod_two_eq_zero_or_one (v / 2 ^ k) with h | h
  · simp [h]; omega
  · simp [h]; omega

/-- The value of bits. -/
def ofBits (l : List Bool) : Nat := l.foldl (fun v x => 2 * v + x.toNat) 0
theorem ofBits_snoc (l : List Bool) (x : Bool) : ofBits (l ++ [x]) = 2 * ofBits l + x.toNat := by simp [ofBits]
theorem ofBits_lt (l : List Bool) : ofBits l < 2 ^ l.length := by
  induction l using List.reverseRecOn' with
  | nil => simp [ofBits]
  | snoc l x ih =>
    rw [ofBits_snoc, List.length_append, List.length_singleton, Nat.pow_succ]
    have := Bool.toNat_le x
    omega

theorem byteAt_bit (l : List Bool) (i : Nat) : byteAt l (i / 8) / 2 ^ (7 - i % 8) % 2 = bit l i := by
  unfold byteAt
  obtain ⟨q, hq⟩ : ∃ q, q = i / 8 := ⟨_, rfl⟩
  obtain ⟨r, hr⟩ : ∃ r, r = i % 8 := ⟨_, rfl⟩
  have hl : i = 8 * q + r := by omega
  rw [← hq, ← hr, hl]
  have h := bit_le l
  have h0 := h (8 * q); have h1 := h (8 * q + 1); have h2 := h (8 * q + 2); have h3 := h (8 * q + 3); have h4 := h (8 * q + 4); have h5 := h (8 * q + 5); have h6 := h (8 * q + 6); have h7 := h (8 * q + 7)
  have : r < 8 := by omega
  rcases (by omega : r = 0 ∨ r = 1 ∨ r = 2 ∨ r = 3 ∨ r = 4 ∨ r = 5 ∨ r = 6 ∨ r = 7) with h | h | h | h | h | h | h | h <;> subst h <;> simp <;> omega

end Go.Proofs.Ytmihlbecmagmbaa
