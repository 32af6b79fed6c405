/- coder: what decoding needs, in numbers. -/
import Derived.Test.YtglinpclcmmnbaaCod13
import Derived.Test.YtglinpclcmmnbaaCod12
namespace Go.Proofs.Ytglinpclcmmnbaa
open Go.RowKit Go.Shelf

/-- The number by which a symbol is found. -/
def askN (cs : List Int) (R h : Nat) : Nat := min (h / (R / (isum cs).toNat)) ((isum cs).toNat - 1)
theorem ask_find {cs : List Int} {R h : Nat} (hv : Vt cs) (hR : 16777216 ≤ R) (hh : h < R) :
    findI cs (askN cs R h : Int) < cs.length ∧ ptF cs (findI cs (askN cs R h : Int)) R ≤ h ∧ h < ptF cs (findI cs (askN cs R h : Int)) R + ptW cs (findI cs (askN cs R h : Int)) R := by
  have hv0 := hv
  obtain ⟨v1, v2, v3, v4⟩ := hv0
  have hpos := isum_nonneg v3
  obtain ⟨n, hn⟩ := Int.eq_ofNat_of_zero_le (show 0 ≤ isum cs by omega)
  have hask : askN cs R h = min (h / (R / n)) (n - 1) := by unfold askN; rw [hn]; rfl
  have hn0 : 0 < n := by omega
  have hnl : n ≤ 65536 := by omega
  have hr0 : 0 < R / n := Nat.div_pos (by omega) hn0
  obtain ⟨m, hm⟩ : ∃ m, m = askN cs R h := ⟨_, rfl⟩
  have hmn : m < n := by rw [hm, hask]; omega
  have hfi : findI cs (m : Int) = findOf cs (m : Int) := by unfold findI; rw [if_pos ⟨by omega, by omega⟩]
  rw [← hm, hfi]
  have hlt : findOf cs (m : Int) < cs.length := findOf_lt (by omega) (by omega)
  obtain ⟨s, hs⟩ : ∃ s, s = findOf cs (m : Int) := ⟨_, rfl⟩
  rw [← hs] at hlt ⊢
  obtain ⟨f1, f2⟩ := (findOf_in v3 hlt).1 hs.symm
  have hp := pt_spec hv hlt hR
  have hF : ptF cs s R = (isum (cs.take s)).toNat * (R / n) := by unfold ptF; rw [hn]; rfl
  refine ⟨hlt, ?_, ?_⟩
  · rw [hF]
    rcases f2 with rfl | f2
    · simp [isum]
    · have h1 : (isum (cs.take s)).toNat ≤ h / (R / n) := by omega
      calc (isum (cs.take s)).toNat * (R / n) ≤ h / (R / n) * (R / n) := Nat.mul_le_mul_right _ h1
        _ ≤ h := Nat.div_mul_le_self _ _
  · rcases Nat.lt_or_ge (s + 1) cs.length with hl | hl
    · rw [hp.2.2.2 hl]
      have hF2 : ptF cs (s + 1) R = (isum (cs.take (s + 1))).toNat * (R / n) := by unfold ptF; rw [hn]; rfl
      rw [hF2]
      have h2 := isum_take_succ hl
      have h3 := isum_take_le v3 (s + 1 + 1)
      have h4 := v3 cs[s + 1] (List.getElem_mem hl)
      have h5 : m = h / (R / n) := by omega
      have h6 : h / (R / n) < (isum (cs.take (s + 1))).toNat := by omega
      exact (Nat.div_lt_iff_lt_mul hr0).1 h6
    · rw [hp.2.2.1 (by omega)]
      exact hh
theorem wide_shift {b : List Nat} {K L R : Nat} (hlt : ∀ d ∈ b, d < 256) (h1 : L ≤ valD (wideL b K)) (h2 : valD (wideL b K) < L + R) :
    ∀ i, L * 256 ^ i ≤ valD (wideL b (K + i)) ∧ valD (wideL b (K + i)) < L * 256 ^ i + R * 256 ^ i
  | 0 => by simpa using ⟨h1, h2⟩
  | i + 1 => by
    have ih := wide_shift hlt h1 h2 i
    have hd := wide_get_lt hlt (K + i)
    have hs := valD_wide_succ b (K + i)
    rw [← Nat.add_assoc, hs, Nat.pow_succ, ← Nat.mul_assoc, ← Nat.mul_assoc]
    omega
theorem find_in {cs : List Int} {b : List Nat} {x : Nat × Nat × Nat} {s : Nat} (hlt : ∀ d ∈ b, d < 256) (hin : InI x b) (h1 : ptF cs s x.2.2 ≤ valD (wideL b (x.1 + 4)) - x.2.1) (h2 : valD (wideL b (x.1 + 4)) - x.2.1 < ptF cs s x.2.2 + ptW cs s x.2.2) :
    InI (stepI x cs s) b := by
  obtain ⟨k, L, R⟩ := x
  obtain ⟨i1, i2⟩ := hin
  simp only at i1 i2 h1 h2
  have := wide_shift (K := k + 4) (L := L + ptF cs s R) (R := ptW cs s R) hlt (by omega) (by omega) (shS (ptW cs s R))
  unfold InI stepI
  simp only
  rw [show k + shS (ptW cs s R) + 4 = k + 4 + shS (ptW cs s R) by omega]
  exact this

theorem wide_back {b : List Nat} {K L W : Nat} (hlt : ∀ d ∈ b, d < 256) : ∀ i, L * 256 ^ i ≤ valD (wideL b (K + i)) → valD (wideL b (K + i)) < L * 256 ^ i + W * 256 ^ i → L ≤ valD (wideL b K) ∧ valD (wideL b K) < L + W
  | 0, h1, h2 => by simpa using And.intro h1 h2
  | i + 1, h1, h2 => by
    have hd := wide_get_lt hlt (K + i)
    have hs := valD_wide_succ b (K + i)
    rw [← Nat.add_assoc, hs, Nat.pow_succ, ← Nat.mul_assoc] at h1 h2
    rw [← Nat.mul_assoc] at h2
    exact wide_back hlt i (by omega) (by omega)
/-- What a step's interval says of the bytes in it. -/
theorem step_in {cs : List Int} {b : List Nat} {x : Nat × Nat × Nat} {s : Nat} (hlt : ∀ d ∈ b, d < 256) (h : InI (stepI x cs s) b) : x.2.1 + ptF cs s x.2.2 ≤ valD (wideL b (x.1 + 4)) ∧ valD (wideL b (x.1 + 4)) < x.2.1 + ptF cs s x.2.2 + ptW cs s x.2.2 := by
  obtain ⟨k, L, R⟩ := x
  obtain ⟨h1, h2⟩ := h
  unfold stepI at h1 h2
  simp only at h1 h2 ⊢
  rw [show k + shS (ptW cs s R) + 4 = k + 4 + shS (ptW cs s R) by omega] at h1 h2
  exact wide_back hlt _ h1 h2
theorem step_up {cs : List Int} {b : List Nat} {x : Nat × Nat × Nat} {s : Nat} (hI : IvI x) (hv : Vt cs) (hs : s < cs.length) (hlt : ∀ d ∈ b, d < 256) (h : InI (stepI x cs s) b) : InI x b := by
  obtain ⟨h1, h2⟩ := step_in hlt h
  obtain ⟨k, L, R⟩ := x
  have hIv : Iv k L R := hI
  have := (pt_spec hv hs hIv.1).1
  unfold InI
  simp only at h1 h2 ⊢
  omega
theorem ptF_le {cs : List Int} {R s : Nat} (hv : Vt cs) (hR : 16777216 ≤ R) : ∀ d, s + d + 1 < cs.length → ptF cs s R + ptW cs s R ≤ ptF cs (s + d + 1) R
  | 0, h => Nat.le_of_eq ((pt_spec hv (by omega) hR).2.2.2 h)
  | d + 1, h => by
    have h1 := ptF_le (s := s) hv hR d (by omega)
    have h2 := (pt_spec hv (s := s + d + 1) (by omega) hR).2.2.2 (by omega)
    rw [show s + (d + 1) + 1 = s + d + 1 + 1 by omega, ← h2]
    omega
theorem step_uniq {cs : List Int} {b : List Nat} {x : Nat × Nat × Nat} {s s' : Nat} (hI : IvI x) (hv : Vt cs) (hs : s < cs.length) (hs' : s' < cs.length) (hlt : ∀ d ∈ b, d < 256) (h : InI (stepI x cs s) b) (h' : InI (stepI x cs s') b) : s = s' := by
  obtain ⟨a1, a2⟩ := step_in hlt h
  obtain ⟨b1, b2⟩ := step_in hlt h'
  obtain ⟨k, L, R⟩ := x
  have hIv : Iv k L R := hI
  simp only at a1 a2 b1 b2
  rcases Nat.lt_trichotomy s s' with hl | hl | hl
  · have := ptF_le (R := R) (s := s) hv hIv.1 (s' - s - 1) (by omega)
    rw [show s + (s' - s - 1) + 1 = s' by omega] at this
    omega
  · exact hl
  · have := ptF_le (R := R) (s := s') hv hIv.1 (s - s' - 1) (by omega)
    rw [show s' + (s - s' - 1) + 1 = s by omega] at this
    omega
theorem runI_up {b : List Nat} {x : Nat × Nat × Nat} {its : List Stp} (hI : IvI x) (hok : ∀ p ∈ its, RightS p.2.1 p.2.2) (hlt : ∀ d ∈ b, d < 256) (h : InI (runI x its) b) : ∀ t, InI (runI x (its.take t)) b := by
  induction its using rev_ind with
  | h0 => intro t; simpa using h
  | h1 l p ih =>
    intro t
    rcases Nat.lt_or_ge l.length t with ht | ht
    · rw [List.take_of_length_le (by rw [List.length_append, List.length_singleton]; omega)]
      exact h
    · rw [List.take_append_of_le_length ht]
      refine ih (fun q hq => hok q (by simp [hq])) ?_ t
      rw [runI_snoc] at h
      have hp := hok p (by simp)
      exact step_up (runI_ok hI (fun q hq => hok q (by simp [hq]))).1 hp.1 (by have := hp.2; omega) hlt h
theorem code_in {k L R : Nat} {c : List Nat} (hI : Iv k L R) (h : IsCode (k + 4) L R c) : InI (k, L, R) c := by
  obtain ⟨n, h1, -, h3, rfl⟩ := h
  have hR : 0 < R := by have := hI.1; omega
  exact (inI_iff h1 hR (upN_lt h1 h3 hR hI.2.2)).2 h3
theorem in_ok {k L R : Nat} {b : List Nat} (hm : b.length ≤ k + 4) (h : InI (k, L, R) b) : OkN (k + 4) L R b.length := by
  obtain ⟨h1, h2⟩ := h
  simp only at h1 h2
  have e : wideL b (k + 4) = b ++ List.replicate (k + 4 - b.length) 0 := by
    unfold wideL
    rw [List.take_append, List.take_of_length_le hm, List.take_replicate, Nat.min_eq_left (by omega)]
  rw [e, valD_append, List.length_replicate, (valD_zero_iff _).2 (fun d hd => (List.mem_replicate.1 hd).2), Nat.add_zero] at h1 h2
  unfold OkN
  have hp : 0 < 256 ^ (k + 4 - b.length) := Nat.pow_pos (by decide)
  generalize 256 ^ (k + 4 - b.length) = P at *
  generalize valD b = u at *
  have hd := Nat.div_add_mod L P
  have hml := Nat.mod_lt L hp
  by_cases h0 : L % P = 0
  · exact .inl h0
  · refine .inr ?_
    have hlt : L / P < u := by
      apply Classical.byContradiction
      intro hn
      have := Nat.mul_le_mul_right P (Nat.le_of_not_lt hn)
      have e1 := Nat.mul_comm P (L / P)
      omega
    have h3 := Nat.mul_le_mul_right P (show L / P + 1 ≤ u from hlt)
    rw [Nat.add_mul, Nat.one_mul] at h3
    have e1 := Nat.mul_comm P (L / P)
    omega
theorem code_less {k L R : Nat} {c b : List Nat} (h : IsCode (k + 4) L R c) (hb : b.length < c.length) : ¬ InI (k, L, R) b := by
  obtain ⟨n, h1, h2, -, rfl⟩ := h
  rw [digs_length] at hb
  exact fun hi => h2 _ hb (in_ok (by omega) hi)
theorem wide_zero (b : List Nat) : ∀ K, wideL (b ++ [0]) K = wideL b K
  | 0 => by simp [wideL]
  | K + 1 => by
    rw [wideL_succ, wideL_succ, wide_zero b K]
    congr 2
    simp only [List.getD]
    rcases Nat.lt_trichotomy K b.length with h | h | h
    · rw [List.getElem?_append_left h]
    · subst h
      simp
    · rw [List.getElem?_eq_none (by simp; omega), List.getElem?_eq_none (by omega)]
theorem in_zero {x : Nat × Nat × Nat} {b : List Nat} : InI x (b ++ [0]) ↔ InI x b := by
  unfold InI
  rw [wide_zero]
theorem have_step {b : List Nat} {K L j : Nat} (h : L * 256 ^ j ≤ valD (wideL b (K + j))) : valD (wideL b (K + (j + 1))) - L * 256 ^ (j + 1) = (valD (wideL b (K + j)) - L * 256 ^ j) * 256 + b.getD (K + j) 0 := by
  have hs := valD_wide_succ b (K + j)
  rw [← Nat.add_assoc, hs, Nat.pow_succ, ← Nat.mul_assoc]
  omega
/-- What a decoder has, while bytes come. -/
def havN (b : List Nat) (K L j : Nat) : Nat := valD (wideL b (K + j)) - L * 256 ^ j
theorem hav_spec {b : List Nat} {K L W sh : Nat} (hlt : ∀ d ∈ b, d < 256) (h1 : L ≤ valD (wideL b K)) (h2 : valD (wideL b K) < L + W) (hW : W * 256 ^ sh ≤ 4294967296) : ∀ j, j ≤ sh → havN b K L j < 4294967296 ∧ havN b K L (j + 1) = havN b K L j * 256 + b.getD (K + j) 0 := by
  intro j hj
  obtain ⟨a1, a2⟩ := wide_shift hlt h1 h2 j
  refine ⟨?_, have_step a1⟩
  have h3 := Nat.mul_le_mul_left W (Nat.pow_le_pow_right (n := 256) (by decide) hj)
  unfold havN
  omega

end Go.Proofs.Ytglinpclcmmnbaa
