/- Symbols of several contexts, whose tables change as they come: plain. -/
import Derived.Test.YtglinpclcmmnbaaCod14
import Derived.Test.YtglinpclcmmnbaaTab3
namespace Go.Proofs.Ytglinpclcmmnbaa
open Go.RowKit Go.Shelf

/-- How it stands behind some symbols, each with its context: the interval, and the counts of each context. -/
abbrev Mst := (Nat × Nat × Nat) × (Nat → List Int)
def mstep (S : Mst) (p : Nat × Nat) : Mst := (stepI S.1 (S.2 p.1) p.2, fun c => if c = p.1 then bumpI (S.2 p.1) p.2 else S.2 c)
def onesI (n : Nat) : List Int := List.replicate n 1
def mrun (n : Nat) (l : List (Nat × Nat)) : Mst := l.foldl mstep (firstI, fun _ => onesI n)
theorem mrun_snoc (n : Nat) (l : List (Nat × Nat)) (p : Nat × Nat) : mrun n (l ++ [p]) = mstep (mrun n l) p := by simp [mrun]
theorem mrun_take {n : Nat} {l : List (Nat × Nat)} {t : Nat} (h : t < l.length) : mrun n (l.take (t + 1)) = mstep (mrun n (l.take t)) l[t] := by
  rw [List.take_succ_eq_append_getElem h, mrun_snoc]
theorem isum_ones : ∀ n : Nat, isum (onesI n) = n
  | 0 => rfl
  | n + 1 => by
    have := isum_ones n
    unfold onesI at this ⊢
    rw [List.replicate_succ, isum, this]
    omega
theorem ones_ok {n : Nat} (h1 : 1 ≤ n) (h2 : n ≤ 256) : Vt (onesI n) := by
  refine ⟨by simpa [onesI] using h1, by simpa [onesI] using h2, fun x hx => ?_, by rw [isum_ones]; omega⟩
  have := (List.mem_replicate.1 hx).2
  omega
theorem mrun_ok {n : Nat} {l : List (Nat × Nat)} (h1 : 1 ≤ n) (h2 : n ≤ 256) (h : ∀ p ∈ l, p.2 < n) : IvI (mrun n l).1 ∧ (mrun n l).1.1 ≤ 2 * l.length ∧ ∀ c, Vt ((mrun n l).2 c) ∧ ((mrun n l).2 c).length = n := by
  induction l using rev_ind with
  | h0 => exact ⟨firstI_iv, Nat.le_refl _, fun c => ⟨ones_ok h1 h2, by simp [mrun, onesI]⟩⟩
  | h1 l p ih =>
    obtain ⟨a1, a2, a3⟩ := ih (fun q hq => h q (by simp [hq]))
    have hp := h p (by simp)
    obtain ⟨b1, b2⟩ := stepI_ok (s := (p.2 : Int)) a1 ⟨(a3 p.1).1, by omega, by rw [(a3 p.1).2]; omega⟩
    rw [Int.toNat_natCast] at b1 b2
    rw [mrun_snoc]
    refine ⟨b1, by show (stepI _ _ _).1 ≤ _; rw [List.length_append, List.length_singleton]; omega, fun c => ?_⟩
    show Vt (if c = p.1 then _ else _) ∧ (if c = p.1 then _ else _ : List Int).length = n
    split
    · exact ⟨bumpI_ok (a3 p.1).1, by rw [bumpI_length]; exact (a3 p.1).2⟩
    · exact a3 c
theorem mrun_up {n : Nat} {l : List (Nat × Nat)} {b : List Nat} (h1 : 1 ≤ n) (h2 : n ≤ 256) (h : ∀ p ∈ l, p.2 < n) (hlt : ∀ d ∈ b, d < 256) (hin : InI (mrun n l).1 b) : ∀ t, InI (mrun n (l.take t)).1 b := by
  induction l using rev_ind with
  | h0 => intro t; simpa using hin
  | h1 l p ih =>
    intro t
    rcases Nat.lt_or_ge l.length t with ht | ht
    · rw [List.take_of_length_le (by rw [List.length_append, List.length_singleton]; omega)]
      exact hin
    · rw [List.take_append_of_le_length ht]
      have hl : ∀ q ∈ l, q.2 < n := fun q hq => h q (by simp [hq])
      refine ih hl ?_ t
      rw [mrun_snoc] at hin
      have hp := h p (by simp)
      obtain ⟨a1, -, a3⟩ := mrun_ok h1 h2 hl
      exact step_up a1 (a3 p.1).1 (by rw [(a3 p.1).2]; exact hp) hlt hin

/-- A symbol's part is at least its counts' share. -/
theorem ptW_ge {cs : List Int} {s R : Nat} (hv : Vt cs) (h : s < cs.length) : (cs.getD s 0).toNat * (R / (isum cs).toNat) ≤ ptW cs s R := by
  obtain ⟨v1, v2, v3, v4⟩ := hv
  have hs := isum_take_succ h
  have h0 := isum_take_nonneg v3 s
  have hx := v3 cs[s] (List.getElem_mem h)
  have hpos := isum_nonneg v3
  have hg : cs.getD s 0 = cs[s] := getD_get h
  unfold ptW
  split
  · rename_i hl
    rw [hl, List.take_length] at hs
    unfold ptF
    rw [hg]
    generalize isum (cs.take s) = c at *
    generalize cs[s] = f at *
    generalize isum cs = n at *
    obtain ⟨c, rfl⟩ := Int.eq_ofNat_of_zero_le h0
    obtain ⟨f, rfl⟩ := Int.eq_ofNat_of_zero_le (show 0 ≤ f by omega)
    obtain ⟨n, rfl⟩ := Int.eq_ofNat_of_zero_le (show 0 ≤ n by omega)
    simp only [Int.toNat_natCast]
    obtain rfl : n = c + f := by omega
    have hnr : (c + f) * (R / (c + f)) ≤ R := Nat.mul_div_le _ _
    rw [Nat.add_mul] at hnr
    omega
  · exact Nat.le_refl _

theorem same_counts {n c s : Nat} (hs : s < n) : ∀ j, n + 32 * j ≤ 65536 → (mrun n (List.replicate j (c, s))).2 c = (onesI n).set s ((1 + 32 * j : Nat) : Int)
  | 0, _ => by
    show onesI n = _
    have : (onesI n).set s ((1 + 32 * 0 : Nat) : Int) = onesI n := by
      refine List.ext_getElem (by simp) fun i h1 h2 => ?_
      rw [List.getElem_set]
      split
      · simp [onesI]
      · rfl
    exact this.symm
  | j + 1, h => by
    have ih := same_counts (c := c) hs j (by omega)
    rw [List.replicate_succ', mrun_snoc]
    show (if c = c then bumpI _ _ else _) = _
    rw [if_pos rfl, ih]
    have hl : s < (onesI n).length := by simpa [onesI] using hs
    have hg : (onesI n)[s] = 1 := by simp [onesI]
    have hd : ((onesI n).set s ((1 + 32 * j : Nat) : Int)).getD s 0 = ((1 + 32 * j : Nat) : Int) := by
      rw [getD_get (by rw [List.length_set]; exact hl), List.getElem_set_self]
    unfold bumpI
    rw [if_pos ⟨by omega, by rw [List.length_set]; omega⟩, Int.toNat_natCast]
    unfold bumpOf
    rw [if_neg (by rw [isum_set hl, hg, isum_ones]; omega), hd, List.set_set]
    congr 1
theorem low_alg {A A' a D M P Q R w T : Nat} (hM : 0 < M) (h1 : A' * M ≤ A * a * D) (h2 : A * P ≤ R * T) (h3 : a * R * D ≤ M * w) : A' * (P * Q) ≤ w * Q * T := by
  apply Nat.le_of_mul_le_mul_left _ hM
  calc M * (A' * (P * Q)) = (A' * M) * (P * Q) := by ac_rfl
    _ ≤ (A * a * D) * (P * Q) := Nat.mul_le_mul_right _ h1
    _ = (A * P) * (a * D * Q) := by ac_rfl
    _ ≤ (R * T) * (a * D * Q) := Nat.mul_le_mul_right _ h2
    _ = (a * R * D) * (Q * T) := by ac_rfl
    _ ≤ (M * w) * (Q * T) := Nat.mul_le_mul_right _ h3
    _ = M * (w * Q * T) := by ac_rfl
/-- How wide it is at least, in parts of 2^32. -/
def lowS (n : Nat) : Nat → Nat
  | 0 => 18446744073709551616
  | j + 1 => lowS n j * (1 + 32 * j) * (16777216 - (n + 32 * j)) / ((n + 32 * j) * 16777216)
theorem lowS_le {n : Nat} (hn : 1 ≤ n) (j : Nat) : lowS n (j + 1) ≤ lowS n j := by
  show _ / _ ≤ _
  refine Nat.div_le_of_le_mul ?_
  have h1 : (1 + 32 * j) * (16777216 - (n + 32 * j)) ≤ (n + 32 * j) * 16777216 := Nat.mul_le_mul (by omega) (by omega)
  calc lowS n j * (1 + 32 * j) * (16777216 - (n + 32 * j)) = lowS n j * ((1 + 32 * j) * (16777216 - (n + 32 * j))) := by ac_rfl
    _ ≤ lowS n j * ((n + 32 * j) * 16777216) := Nat.mul_le_mul_left _ h1
    _ = (n + 32 * j) * 16777216 * lowS n j := by ac_rfl
theorem lowS_mono {n : Nat} (hn : 1 ≤ n) (j : Nat) : ∀ d, lowS n (j + d) ≤ lowS n j
  | 0 => Nat.le_refl _
  | d + 1 => Nat.le_trans (lowS_le hn (j + d)) (lowS_mono hn j d)
theorem share_le {a N R : Nat} (hN : 0 < N) (hR : 16777216 ≤ R) : a * R * (16777216 - N) ≤ N * 16777216 * (a * (R / N)) := by
  have h1 : R - N ≤ N * (R / N) := by
    have h2 := Nat.div_add_mod R N
    have h3 := Nat.mod_lt R hN
    omega
  have h4 : R * (16777216 - N) ≤ (R - N) * 16777216 := by
    rw [Nat.mul_sub, Nat.sub_mul]
    have h5 := Nat.mul_le_mul_left N hR
    have h6 := Nat.mul_comm N R
    omega
  calc a * R * (16777216 - N) = a * (R * (16777216 - N)) := by ac_rfl
    _ ≤ a * ((R - N) * 16777216) := Nat.mul_le_mul_left _ h4
    _ ≤ a * (N * (R / N) * 16777216) := Nat.mul_le_mul_left _ (Nat.mul_le_mul_right _ h1)
    _ = N * 16777216 * (a * (R / N)) := by ac_rfl
theorem same_low {n c s : Nat} (hs : s < n) (hn : n ≤ 256) : ∀ j, n + 32 * j ≤ 65536 → lowS n j * 256 ^ (mrun n (List.replicate j (c, s))).1.1 ≤ (mrun n (List.replicate j (c, s))).1.2.2 * 4294967296
  | 0, _ => by
    show 18446744073709551616 * 256 ^ 0 ≤ 4294967296 * 4294967296
    decide
  | j + 1, h => by
    have ih := same_low (c := c) hs hn j (by omega)
    have hok := mrun_ok (l := List.replicate j (c, s)) (by omega) hn (fun p hp => by rw [(List.mem_replicate.1 hp).2]; exact hs)
    obtain ⟨hI, -, hT⟩ := hok
    have hc := same_counts (c := c) hs j (by omega)
    have hv := (hT c).1
    have hlen := (hT c).2
    rw [List.replicate_succ', mrun_snoc]
    have hl : s < (onesI n).length := by simpa [onesI] using hs
    have hg1 : (onesI n)[s] = 1 := by simp [onesI]
    have hg := ptW_ge (R := (mrun n (List.replicate j (c, s))).1.2.2) hv (by rw [hlen]; exact hs)
    have hd : ((mrun n (List.replicate j (c, s))).2 c).getD s 0 = ((1 + 32 * j : Nat) : Int) := by
      rw [hc, getD_get (by rw [List.length_set]; exact hl), List.getElem_set_self]
    have hsum : isum ((mrun n (List.replicate j (c, s))).2 c) = ((n + 32 * j : Nat) : Int) := by
      rw [hc, isum_set hl, hg1, isum_ones]; omega
    rw [hd, hsum, Int.toNat_natCast, Int.toNat_natCast] at hg
    show lowS n (j + 1) * 256 ^ (stepI _ _ _).1 ≤ (stepI _ _ _).2.2 * _
    simp only
    generalize (mrun n (List.replicate j (c, s))).2 c = cs at *
    generalize (mrun n (List.replicate j (c, s))).1 = x at *
    obtain ⟨k, L, R⟩ := x
    have hIv : Iv k L R := hI
    unfold stepI
    simp only at ih hg ⊢
    generalize ptW cs s R = w at *
    generalize shS w = sh at *
    rw [Nat.pow_add]
    refine low_alg (A := lowS n j) (a := 1 + 32 * j) (D := 16777216 - (n + 32 * j)) (M := (n + 32 * j) * 16777216) (R := R) (by omega) ?_ ih ?_
    · exact Nat.div_mul_le_self _ _
    · exact Nat.le_trans (share_le (by omega) hIv.1) (Nat.mul_le_mul_left _ hg)
theorem lowS_8 : 281474976710656 < lowS 8 200 := by decide +kernel
theorem lowS_all : ∀ n, n < 17 → 2 ≤ n → 281474976710656 < lowS n 1055 := by decide +kernel
/-- Of a symbol that comes always there is at most one byte beyond the four. -/
theorem same_short {n c s j J : Nat} (hs : s < n) (hn : n ≤ 256) (hJ : j ≤ J) (hb : n + 32 * J ≤ 65536) (hlow : 281474976710656 < lowS n J) : (mrun n (List.replicate j (c, s))).1.1 ≤ 1 := by
  have h1 := same_low (c := c) hs hn j (by omega)
  have h2 := lowS_mono (n := n) (by omega) j (J - j)
  rw [show j + (J - j) = J by omega] at h2
  have hI := (mrun_ok (l := List.replicate j (c, s)) (by omega) hn (fun p hp => by rw [(List.mem_replicate.1 hp).2]; exact hs)).1
  generalize (mrun n (List.replicate j (c, s))).1 = x at *
  obtain ⟨k, L, R⟩ := x
  have hIv : Iv k L R := hI
  have hR := hIv.2.1
  simp only at h1 ⊢
  apply Classical.byContradiction
  intro hk
  have h3 : (256 : Nat) ^ 2 ≤ 256 ^ k := Nat.pow_le_pow_right (by decide) (by omega)
  have h4 : 281474976710657 * 256 ^ 2 ≤ lowS n j * 256 ^ k := Nat.mul_le_mul (by omega) h3
  have h5 : (281474976710657 : Nat) * 256 ^ 2 = 18446744073709617152 := by decide
  rw [h5] at h4
  generalize lowS n j * 256 ^ k = Z at *
  omega

end Go.Proofs.Ytglinpclcmmnbaa
