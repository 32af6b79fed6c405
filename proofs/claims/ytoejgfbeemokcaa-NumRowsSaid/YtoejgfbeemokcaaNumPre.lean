/- Long forms: none begins with another one. -/
import Derived.Test.YtoejgfbeemokcaaLaw2d
import Derived.Test.YtoejgfbeemokcaaLaw1f
namespace Go.Proofs.Ytoejgfbeemokcaa
open Go.RowKit

theorem longN_lead {n j : Nat} (h : j < halfN n) : (longN n)[j]? = some false := by
  unfold longN
  rw [List.getElem?_append_left (by simpa using h), List.getElem?_replicate, if_pos h]
theorem longN_top {n : Nat} (hn : n ≤ 4294967296) : (longN n)[halfN n]? = some true := by
  unfold longN
  rw [List.getElem?_append_right (by simp), List.length_replicate, Nat.sub_self]
  have h1 := halfN_lt hn
  have h2 := halfN_low hn
  rw [valBits_cons]
  simp only [List.getElem?_cons_zero, Option.some.injEq]
  rw [Nat.testBit_eq_decide_div_mod_eq]
  have h3 : (n + 1) / 2 ^ halfN n = 1 := by
    rw [Nat.pow_succ] at h1
    refine Nat.div_eq_of_lt_le (by omega) (by omega)
  rw [h3]; rfl

theorem halfN_mono {a b : Nat} (hb : b ≤ 4294967296) (h : a ≤ b) : halfN a ≤ halfN b := by
  have h2 := halfN_lt hb
  have h3 := halfN_le hb
  have h1 := bitLen_le (x := a + 1) (k := halfN b + 1) (by omega) (by omega)
  unfold halfN at *
  omega

theorem longN_inj {a b : Nat} (ha : a ≤ 4294967296) (hb : b ≤ 4294967296) (h : longN a = longN b) : a = b := by
  have hk : halfN a = halfN b := by
    have := congrArg List.length h
    rw [longN_length, longN_length] at this
    unfold sizeN at this; omega
  unfold longN at h
  rw [hk] at h
  have h2 := List.append_cancel_left h
  have h3 := congrArg ofBits h2
  have ha2 := halfN_lt ha
  rw [hk] at ha2
  rw [ofBits_valBits _ _ ha2, ofBits_valBits _ _ (halfN_lt hb)] at h3
  omega

theorem prefix_aux {a b m : Nat} (ha : a ≤ 4294967296) (hb : b ≤ 4294967296) (hk : halfN a ≤ halfN b) (hm : m = sizeN a) (h : (longN a).take m = (longN b).take m) : a = b := by
  by_cases he : halfN a = halfN b
  · apply longN_inj ha hb
    have hs : sizeN a = sizeN b := by unfold sizeN; omega
    rw [List.take_of_length_le (by rw [longN_length]; omega), List.take_of_length_le (by rw [longN_length]; omega)] at h
    exact h
  · have h1 := longN_lead (n := b) (j := halfN a) (by omega)
    have h2 := longN_top ha
    have h3 := congrArg (fun l => l[halfN a]?) h
    simp only [List.getElem?_take] at h3
    have h4 : halfN a < m := by rw [hm]; unfold sizeN; omega
    rw [if_pos h4, if_pos h4, h1, h2] at h3
    simp at h3

theorem prefix_eq {a b m : Nat} (ha : a ≤ 4294967296) (hb : b ≤ 4294967296) (hm : m = min (sizeN a) (sizeN b)) : ((longN a).take m = (longN b).take m) ↔ a = b := by
  constructor
  · intro h
    by_cases hk : halfN a ≤ halfN b
    · exact prefix_aux ha hb hk (by unfold sizeN at *; omega) h
    · exact (prefix_aux hb ha (by omega) (by unfold sizeN at *; omega) h.symm).symm
  · rintro rfl; rfl

theorem bitStr_extract (l : List Bool) (i j : Nat) : (bitStr l).extract i j = bitStr ((l.take j).drop i) := by
  apply ba_ext
  simp [bitStr, ByteArray.data_extract, List.extract_eq_take_drop, List.map_drop, List.map_take, List.drop_take]

theorem bitStr_beq (a b : List Bool) : ((bitStr a).toList == (bitStr b).toList) = decide (a = b) := by
  rw [bitStr_toList, bitStr_toList]
  by_cases h : a = b
  · subst h; simp
  · have : a.map chr ≠ b.map chr := fun e => h (map_chr_inj e)
    simp [h, this]

end Go.Proofs.Ytoejgfbeemokcaa
