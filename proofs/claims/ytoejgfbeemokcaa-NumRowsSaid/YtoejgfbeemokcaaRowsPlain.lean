/- Rows of numbers: what lies behind what. Plain. -/
import Derived.Test.YtoejgfbeemokcaaGet2
namespace Go.Proofs.Ytoejgfbeemokcaa
open Go.RowKit

theorem leadN_rep (k : Nat) (x : List Bool) : leadN (List.replicate k false ++ true :: x) = k := by
  induction k with
  | zero => rfl
  | succ k ih =>
    rw [List.replicate_succ, List.cons_append]
    show leadN _ + 1 = k + 1
    rw [ih]

theorem longN_cons {n : Nat} (hn : n ≤ 4294967296) : longN n = List.replicate (halfN n) false ++ true :: valBits (n + 1) (halfN n) := by
  unfold longN
  have h1 := halfN_lt hn
  have h2 := halfN_low hn
  have h3 : (n + 1) / 2 ^ halfN n = 1 := by
    rw [Nat.pow_succ] at h1
    refine Nat.div_eq_of_lt_le (by omega) (by omega)
  rw [valBits_cons, Nat.testBit_eq_decide_div_mod_eq, h3]
  rfl

theorem getN_long {n : Nat} (hn : n ≤ 4294967296) (x : List Bool) : getN (longN n ++ x) = (n, sizeN n, 0) := by
  have h1 := halfN_lt hn
  have h3 := halfN_le hn
  have hl : leadN (longN n ++ x) = halfN n := by
    rw [longN_cons hn, List.append_assoc, List.cons_append]; exact leadN_rep _ _
  have hd : ((longN n ++ x).drop (halfN n)).take (halfN n + 1) = valBits (n + 1) (halfN n + 1) := by
    unfold longN
    rw [List.append_assoc, List.drop_left' (by simp), List.take_left' (by rw [valBits_length])]
  unfold getN
  rw [hl, if_neg (by omega), if_neg (by rw [List.length_append, longN_length]; unfold sizeN; omega), hd, ofBits_valBits _ _ h1, if_neg (by omega)]
  rfl

theorem unfix_val {b : Int} {v i : Nat} {l x : List Bool} (hb0 : 0 < b) (hb : b ≤ 9223372036854775807) (hv : (v : Int) < b) (hi : i ≤ l.length) (h : l.drop i = valBits v (widthN b) ++ x) : unfixOf l i b = ((v : Int), 0, i + widthN b) := by
  have hlen := congrArg List.length h
  rw [List.length_drop, List.length_append, valBits_length] at hlen
  unfold unfixOf
  rw [if_neg (by omega), if_neg (by omega), h, List.take_left' (by rw [valBits_length]), ofBits_valBits _ _ (widthN_lt hb hv), if_neg (by omega)]

/-- What is written of number i. -/
def rowPiece (ws bs : List Int) (i : Nat) : List Bool :=
  if i < bs.length ∧ 0 < bs.getD i 0 then valBits (ws.getD i 0 % bs.getD i 0).toNat (widthN (bs.getD i 0)) else longN (ws.getD i 0).toNat
/-- What is written up to there. -/
def rowUpto (ws bs : List Int) : Nat → List Bool
  | 0 => []
  | i + 1 => rowUpto ws bs i ++ rowPiece ws bs i

theorem rowPiece_le {ws bs : List Int} {i : Nat} (hw : ∀ x ∈ ws, 0 ≤ x ∧ x ≤ 4294967295) (hb : ∀ x ∈ bs, 0 ≤ x ∧ x ≤ 65535) (hi : i < ws.length) : (rowPiece ws bs i).length ≤ 65 := by
  unfold rowPiece
  split
  · next h =>
    rw [valBits_length]
    have hm : bs.getD i 0 ∈ bs := by rw [List.getD, List.getElem?_eq_getElem h.1]; exact List.getElem_mem h.1
    have := widthN_le (b := bs.getD i 0) (by have := hb _ hm; omega)
    omega
  · have hm : ws.getD i 0 ∈ ws := by rw [List.getD, List.getElem?_eq_getElem hi]; exact List.getElem_mem hi
    have h2 := hw _ hm
    rw [longN_length]
    have := halfN_le (n := (ws.getD i 0).toNat) (by omega)
    unfold sizeN
    omega

theorem rowUpto_le {ws bs : List Int} (hw : ∀ x ∈ ws, 0 ≤ x ∧ x ≤ 4294967295) (hb : ∀ x ∈ bs, 0 ≤ x ∧ x ≤ 65535) : ∀ i : Nat, i ≤ ws.length → (rowUpto ws bs i).length ≤ 65 * i
  | 0, _ => Nat.le_refl _
  | i + 1, h => by
    have h1 := rowUpto_le hw hb i (by omega)
    have h2 := rowPiece_le hw hb (i := i) (by omega)
    show (rowUpto ws bs i ++ rowPiece ws bs i).length ≤ _
    rw [List.length_append]
    omega

theorem rowUpto_pre (ws bs : List Int) (m : Nat) : ∀ n : Nat, m ≤ n → ∃ s, rowUpto ws bs n = rowUpto ws bs m ++ s
  | 0, h => ⟨[], by have : m = 0 := by omega
                    subst this; rfl⟩
  | n + 1, h => by
    by_cases hm : m = n + 1
    · subst hm; exact ⟨[], by simp⟩
    · obtain ⟨s, hs⟩ := rowUpto_pre ws bs m n (by omega)
      exact ⟨s ++ rowPiece ws bs n, by rw [← List.append_assoc, ← hs]; rfl⟩

theorem rowUpto_drop {ws bs : List Int} {i n : Nat} (h : i < n) : (rowUpto ws bs n).drop (rowUpto ws bs i).length = rowPiece ws bs i ++ (rowUpto ws bs n).drop (rowUpto ws bs (i + 1)).length := by
  obtain ⟨s, hs⟩ := rowUpto_pre ws bs (i + 1) n h
  rw [hs, List.drop_left]
  show (rowUpto ws bs i ++ rowPiece ws bs i ++ s).drop _ = _
  rw [List.append_assoc, List.drop_left]

theorem rowUpto_mono {ws bs : List Int} {i n : Nat} (h : i ≤ n) : (rowUpto ws bs i).length ≤ (rowUpto ws bs n).length := by
  obtain ⟨s, hs⟩ := rowUpto_pre ws bs i n h
  rw [hs, List.length_append]; omega

theorem rowUpto_succ (ws bs : List Int) (i : Nat) : rowUpto ws bs (i + 1) = rowUpto ws bs i ++ rowPiece ws bs i := rfl
theorem rowPiece_short {ws bs : List Int} {i : Nat} {n b : Int} (hn : ws.getD i 0 = n) (hi : i < bs.length) (hb : bs.getD i 0 = b) (h0 : 0 < b) : rowPiece ws bs i = valBits (n % b).toNat (widthN b) := by
  unfold rowPiece; rw [hn, hb, if_pos ⟨hi, h0⟩]
theorem rowPiece_long {ws bs : List Int} {i : Nat} {n : Int} (hn : ws.getD i 0 = n) (h : ¬ (i < bs.length ∧ 0 < bs.getD i 0)) : rowPiece ws bs i = longN n.toNat := by
  unfold rowPiece; rw [hn, if_neg h]

end Go.Proofs.Ytoejgfbeemokcaa
