/- Words, there and back: plain. -/
import Derived.Test.YtmihlbecmagmbaaWord14
namespace Go.Proofs.Ytmihlbecmagmbaa

theorem nextL_code {c : UInt8} {k : Lt} (h : kindOf c = some k) (rest : List Bool) : nextL (codeL c ++ rest) = some (c, (codeL c).length) ∧ takesN c = k.takes := by
  have ht : takesN c = k.takes := by unfold takesN; rw [h]
  refine ⟨?_, ht⟩
  have hc : codeL c = k.bits := by unfold codeL; rw [h]
  have hn := kind_cases c
  rw [h] at hn
  have hu : ∀ d : UInt8, c.toNat = d.toNat → c = d := fun d hd => UInt8.toNat_inj.1 hd
  cases k <;> simp at hn
  · rw [hc]; rw [hu 67 hn]; rfl
  · rw [hc]; rw [hu 83 hn]; rfl
  · rw [hc]; rw [hu 82 hn]; rfl
  · rw [hc]; rw [hu 76 hn]; rfl
  · rw [hc]; rw [hu 69 hn]; rfl
theorem prs_wbits (rest : List Bool) : ∀ (l : List UInt8) (m f : Nat), miss m l = some 0 → l.length ≤ f → prs f m (wbits l ++ rest) = (l, (wbits l).length, true)
  | [], m, f, h, _ => by
    simp [miss] at h
    subst h
    cases f <;> rfl
  | c :: l, m, f, h, hf => by
    simp only [miss] at h
    cases hk : kindOf c with
    | none => rw [hk] at h; cases h
    | some k =>
      rw [hk] at h
      simp only at h
      split at h
      · cases h
      · obtain ⟨m1, rfl⟩ : ∃ m1, m = m1 + 1 := ⟨m - 1, by omega⟩
        obtain ⟨f1, rfl⟩ : ∃ f1, f = f1 + 1 := ⟨f - 1, by simp only [List.length_cons] at hf; omega⟩
        have hw : wbits (c :: l) ++ rest = codeL c ++ (wbits l ++ rest) := by simp [wbits]
        obtain ⟨e1, e2⟩ := nextL_code hk (wbits l ++ rest)
        have ih := prs_wbits rest l (m1 + k.takes) f1 (by simpa using h) (by simp only [List.length_cons] at hf; omega)
        rw [hw]
        simp only [prs, e1, e2, List.drop_left, ih]
        simp [wbits]
theorem wbits_len (l : List UInt8) (h : letters l = true) : l.length ≤ (wbits l).length := by
  induction l with
  | nil => simp [wbits]
  | cons c l ih =>
    unfold letters at h ih
    simp only [List.all_cons, Bool.and_eq_true] at h
    have := ih h.2
    cases hk : kindOf c with
    | none => rw [hk] at h; simp at h
    | some k =>
      have := codeL_pos hk
      simp only [wbits, List.flatMap_cons, List.length_append, List.length_cons] at *
      omega
theorem decA_wbits {l : List UInt8} (h : rightB l = true) (rest : List Bool) : decA (wbits l ++ rest) = (l, (wbits l).length, 0) := by
  have hl := wbits_len l (st_letters (rightB_iff.1 h).1)
  have hp := prs_wbits rest l 1 ((wbits l ++ rest).length + 1) (right_miss h) (by rw [List.length_append]; omega)
  unfold decA
  rw [hp]
  simp only [right_beg h, if_true]

end Go.Proofs.Ytmihlbecmagmbaa
