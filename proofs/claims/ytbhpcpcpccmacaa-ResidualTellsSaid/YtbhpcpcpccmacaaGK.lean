/- coder: the reference's Decode; Done. Symbols of several contexts, whose tables change as they come: plain. model: check. model: a row of tables, some of which may not be there yet; tables. -/
import Derived.Test.YtbhpcpcpccmacaaCod15
import Derived.Test.YtbhpcpcpccmacaaGJ
import Derived.Test.YtbhpcpcpccmacaaGE

namespace Go.Proofs.Ytbhpcpcpccmacaa
open Go.RowKit Go.Shelf

end Go.Proofs.Ytbhpcpcpccmacaa

namespace Go.Proofs.Ytbhpcpcpccmacaa
open Go.RowKit Go.Shelf

/-- How it stands behind some symbols, each with its context: the interval, and the counts of each context. -/
abbrev Mst := (Nat × Nat × Nat) × (Nat → List Int)
def mstep (S : Mst) (p : Nat × Nat) : Mst := (stepI S.1 (S.2 p.1) p.2, fun c => if c = p.1 then bumpI (S.2 p.1) p.2 else S.2 c)
def onesI (n : Nat) : List Int := List.replicate n 1
def mrun (n : Nat) (l : List (Nat × Nat)) : Mst := l.foldl mstep (firstI, fun _ => onesI n)
theorem mrun_snoc (n : Nat) (l : List (Nat × Nat)) (p : Nat × Nat) : mrun n (l ++ [p]) = mstep (mrun n l) p := by simp [mrun]
theorem mrun_take {n : Nat} {l : List (Nat × Nat)} {t : Nat} (h : t < l.length) : mrun n (l.take (t + 1)) = mstep (mrun n (l.take t)) l[t] := by
  rw [List.take_succ_eq_append_getElem h, mrun_snoc]
theorem isum_ones : ∀ n : Nat, isum (onesI n) = n
  | 0 => rfl
  | n + 1 => by
    have := isum_ones n
    unfold onesI at this ⊢
    rw [List.replicate_succ, isum, this]
    omega
theorem ones_ok {n : Nat} (h1 : 1 ≤ n) (h2 : n ≤ 256) : Vt (onesI n) := by
  refine ⟨by simpa [onesI] using h1, by simpa [onesI] using h2, fun x hx => ?_, by rw [isum_ones]; omega⟩
  have := (List.mem_replicate.1 hx).2
  omega
theorem mrun_ok {n : Nat} {l : List (Nat × Nat)} (h1 : 1 ≤ n) (h2 : n ≤ 256) (h : ∀ p ∈ l, p.2 < n) : IvI (mrun n l).1 ∧ (mrun n l).1.1 ≤ 2 * l.length ∧ ∀ c, Vt ((mrun n l).2 c) ∧ ((mrun n l).2 c).length = n := by
  induction l using rev_ind with
  | h0 => exact ⟨firstI_iv, Nat.le_refl _, fun c => ⟨ones_ok h1 h2, by simp [mrun, onesI]⟩⟩
  | h1 l p ih =>
    obtain ⟨a1, a2, a3⟩ := ih (fun q hq => h q (by simp [hq]))
    have hp := h p (by simp)
    obtain ⟨b1, b2⟩ := stepI_ok (s := (p.2 : Int)) a1 ⟨(a3 p.1).1, by omega, by rw [(a3 p.1).2]; omega⟩
    rw [Int.toNat_natCast] at b1 b2
    rw [mrun_snoc]
    refine ⟨b1, by show (stepI _ _ _).1 ≤ _; rw [List.length_append, List.length_singleton]; omega, fun c => ?_⟩
    show Vt (if c = p.1 then _ else _) ∧ (if c = p.1 then _ else _ : List Int).length = n
    split
    · exact ⟨bumpI_ok (a3 p.1).1, by rw [bumpI_length]; exact (a3 p.1).2⟩
    · exact a3 c
theorem mrun_up {n : Nat} {l : List (Nat × Nat)} {b : List Nat} (h1 : 1 ≤ n) (h2 : n ≤ 256) (h : ∀ p ∈ l, p.2 < n) (hlt : ∀ d ∈ b, d < 256) (hin : InI (mrun n l).1 b) : ∀ t, InI (mrun n (l.take t)).1 b := by
  induction l using rev_ind with
  | h0 => intro t; simpa using hin
  | h1 l p ih =>
    intro t
    rcases Nat.lt_or_ge l.length t with ht | ht
    · rw [List.take_of_length_le (by rw [List.length_append, List.length_singleton]; omega)]
      exact hin
    · rw [List.take_append_of_le_length ht]
      have hl : ∀ q ∈ l, q.2 < n := fun q hq => h q (by simp [hq])
      refine ih hl ?_ t
      rw [mrun_snoc] at hin
      have hp := h p (by simp)
      obtain ⟨a1, -, a3⟩ := mrun_ok h1 h2 hl
      exact step_up a1 (a3 p.1).1 (by rw [(a3 p.1).2]; exact hp) hlt hin

/-- A symbol's part is at least its counts' share. -/
theorem ptW_ge {cs : List Int} {s R : Nat} (hv : Vt cs) (h : s < cs.length) : (cs.getD s 0).toNat * (R / (isum cs).toNat) ≤ ptW cs s R := by
  obtain ⟨v1, v2, v3, v4⟩ := hv
  have hs := isum_take_succ h
  have h0 := isum_take_nonneg v3 s
  have hx := v3 cs[s] (List.getElem_mem h)
  have hpos := isum_nonneg v3
  have hg : cs.getD s 0 = cs[s] := getD_get h
  unfold ptW
  split
  · rename_i hl
    rw [hl, List.take_length] at hs
    unfold ptF
    rw [hg]
    generalize isum (cs.take s) = c at *
    generalize cs[s] = f at *
    generalize isum cs = n at *
    obtain ⟨c, rfl⟩ := Int.eq_ofNat_of_zero_le h0
    obtain ⟨f, rfl⟩ := Int.eq_ofNat_of_zero_le (show 0 ≤ f by omega)
    obtain ⟨n, rfl⟩ := Int.eq_ofNat_of_zero_le (show 0 ≤ n by omega)
    simp only [Int.toNat_natCast]
    obtain rfl : n = c + f := by omega
    have hnr : (c + f) * (R / (c + f)) ≤ R := Nat.mul_div_le _ _
    rw [Nat.add_mul] at hnr
    omega
  · exact Nat.le_refl _

theorem same_counts {n c s : Nat} (hs : s < n) : ∀ j, n + 32 * j ≤ 65536 → (mrun n (List.replicate j (c, s))).2 c = (onesI n).set s ((1 + 32 * j : Nat) : Int)
  | 0, _ => by
    show onesI n = _
    have : (onesI n).set s ((1 + 32 * 0 : Nat) : Int) = onesI n := by
      refine List.ext_getElem (by simp) fun i h1 h2 => ?_
      rw [List.getElem_set]
      split
      · simp [onesI]
      · rfl
    exact this.symm
  | j + 1, h => by
    have ih := same_counts (c := c) hs j (by omega)
    rw [List.replicate_succ', mrun_snoc]
    show (if c = c then bumpI _ _ else _) = _
    rw [if_pos rfl, ih]
    have hl : s < (onesI n).length := by simpa [onesI] using hs
    have hg : (onesI n)[s] = 1 := by simp [onesI]
    have hd : ((onesI n).set s ((1 + 32 * j : Nat) : Int)).getD s 0 = ((1 + 32 * j : Nat) : Int) := by
      rw [getD_get (by rw [List.length_set]; exact hl), List.getElem_set_self]
    unfold bumpI
    rw [if_pos ⟨by omega, by rw [List.length_set]; omega⟩, Int.toNat_natCast]
    unfold bumpOf
    rw [if_neg (by rw [isum_set hl, hg, isum_ones]; omega), hd, List.set_set]
    congr 1
theorem low_alg {A A' a D M P Q R w T : Nat} (hM : 0 < M) (h1 : A' * M ≤ A * a * D) (h2 : A * P ≤ R * T) (h3 : a * R * D ≤ M * w) : A' * (P * Q) ≤ w * Q * T := by
  apply Nat.le_of_mul_le_mul_left _ hM
  calc M * (A' * (P * Q)) = (A' * M) * (P * Q) := by ac_rfl
    _ ≤ (A * a * D) * (P * Q) := Nat.mul_le_mul_right _ h1
    _ = (A * P) * (a * D * Q) := by ac_rfl
    _ ≤ (R * T) * (a * D * Q) := Nat.mul_le_mul_right _ h2
    _ = (a * R * D) * (Q * T) := by ac_rfl
    _ ≤ (M * w) * (Q * T) := Nat.mul_le_mul_right _ h3
    _ = M * (w * Q * T) := by ac_rfl
/-- How wide it is at least, in parts of 2^32. -/
def lowS (n : Nat) : Nat → Nat
  | 0 => 18446744073709551616
  | j + 1 => lowS n j * (1 + 32 * j) * (16777216 - (n + 32 * j)) / ((n + 32 * j) * 16777216)
theorem lowS_le {n : Nat} (hn : 1 ≤ n) (j : Nat) : lowS n (j + 1) ≤ lowS n j := by
  show _ / _ ≤ _
  refine Nat.div_le_of_le_mul ?_
  have h1 : (1 + 32 * j) * (16777216 - (n + 32 * j)) ≤ (n + 32 * j) * 16777216 := Nat.mul_le_mul (by omega) (by omega)
  calc lowS n j * (1 + 32 * j) * (16777216 - (n + 32 * j)) = lowS n j * ((1 + 32 * j) * (16777216 - (n + 32 * j))) := by ac_rfl
    _ ≤ lowS n j * ((n + 32 * j) * 16777216) := Nat.mul_le_mul_left _ h1
    _ = (n + 32 * j) * 16777216 * lowS n j := by ac_rfl
theorem lowS_mono {n : Nat} (hn : 1 ≤ n) (j : Nat) : ∀ d, lowS n (j + d) ≤ lowS n j
  | 0 => Nat.le_refl _
  | d + 1 => Nat.le_trans (lowS_le hn (j + d)) (lowS_mono hn j d)
theorem share_le {a N R : Nat} (hN : 0 < N) (hR : 16777216 ≤ R) : a * R * (16777216 - N) ≤ N * 16777216 * (a * (R / N)) := by
  have h1 : R - N ≤ N * (R / N) := by
    have h2 := Nat.div_add_mod R N
    have h3 := Nat.mod_lt R hN
    omega
  have h4 : R * (16777216 - N) ≤ (R - N) * 16777216 := by
    rw [Nat.mul_sub, Nat.sub_mul]
    have h5 := Nat.mul_le_mul_left N hR
    have h6 := Nat.mul_comm N R
    omega
  calc a * R * (16777216 - N) = a * (R * (16777216 - N)) := by ac_rfl
    _ ≤ a * ((R - N) * 16777216) := Nat.mul_le_mul_left _ h4
    _ ≤ a * (N * (R / N) * 16777216) := Nat.mul_le_mul_left _ (Nat.mul_le_mul_right _ h1)
    _ = N * 16777216 * (a * (R / N)) := by ac_rfl
theorem same_low {n c s : Nat} (hs : s < n) (hn : n ≤ 256) : ∀ j, n + 32 * j ≤ 65536 → lowS n j * 256 ^ (mrun n (List.replicate j (c, s))).1.1 ≤ (mrun n (List.replicate j (c, s))).1.2.2 * 4294967296
  | 0, _ => by
    show 18446744073709551616 * 256 ^ 0 ≤ 4294967296 * 4294967296
    decide
  | j + 1, h => by
    have ih := same_low (c := c) hs hn j (by omega)
    have hok := mrun_ok (l := List.replicate j (c, s)) (by omega) hn (fun p hp => by rw [(List.mem_replicate.1 hp).2]; exact hs)
    obtain ⟨hI, -, hT⟩ := hok
    have hc := same_counts (c := c) hs j (by omega)
    have hv := (hT c).1
    have hlen := (hT c).2
    rw [List.replicate_succ', mrun_snoc]
    have hl : s < (onesI n).length := by simpa [onesI] using hs
    have hg1 : (onesI n)[s] = 1 := by simp [onesI]
    have hg := ptW_ge (R := (mrun n (List.replicate j (c, s))).1.2.2) hv (by rw [hlen]; exact hs)
    have hd : ((mrun n (List.replicate j (c, s))).2 c).getD s 0 = ((1 + 32 * j : Nat) : Int) := by
      rw [hc, getD_get (by rw [List.length_set]; exact hl), List.getElem_set_self]
    have hsum : isum ((mrun n (List.replicate j (c, s))).2 c) = ((n + 32 * j : Nat) : Int) := by
      rw [hc, isum_set hl, hg1, isum_ones]; omega
    rw [hd, hsum, Int.toNat_natCast, Int.toNat_natCast] at hg
    show lowS n (j + 1) * 256 ^ (stepI _ _ _).1 ≤ (stepI _ _ _).2.2 * _
    simp only
    generalize (mrun n (List.replicate j (c, s))).2 c = cs at *
    generalize (mrun n (List.replicate j (c, s))).1 = x at *
    obtain ⟨k, L, R⟩ := x
    have hIv : Iv k L R := hI
    unfold stepI
    simp only at ih hg ⊢
    generalize ptW cs s R = w at *
    generalize shS w = sh at *
    rw [Nat.pow_add]
    refine low_alg (A := lowS n j) (a := 1 + 32 * j) (D := 16777216 - (n + 32 * j)) (M := (n + 32 * j) * 16777216) (R := R) (by omega) ?_ ih ?_
    · exact Nat.div_mul_le_self _ _
    · exact Nat.le_trans (share_le (by omega) hIv.1) (Nat.mul_le_mul_left _ hg)
theorem lowS_8 : 281474976710656 < lowS 8 200 := by decide +kernel
theorem lowS_all : ∀ n, n < 17 → 2 ≤ n → 281474976710656 < lowS n 1055 := by decide +kernel
/-- Of a symbol that comes always there is at most one byte beyond the four. -/
theorem same_short {n c s j J : Nat} (hs : s < n) (hn : n ≤ 256) (hJ : j ≤ J) (hb : n + 32 * J ≤ 65536) (hlow : 281474976710656 < lowS n J) : (mrun n (List.replicate j (c, s))).1.1 ≤ 1 := by
  have h1 := same_low (c := c) hs hn j (by omega)
  have h2 := lowS_mono (n := n) (by omega) j (J - j)
  rw [show j + (J - j) = J by omega] at h2
  have hI := (mrun_ok (l := List.replicate j (c, s)) (by omega) hn (fun p hp => by rw [(List.mem_replicate.1 hp).2]; exact hs)).1
  generalize (mrun n (List.replicate j (c, s))).1 = x at *
  obtain ⟨k, L, R⟩ := x
  have hIv : Iv k L R := hI
  have hR := hIv.2.1
  simp only at h1 ⊢
  apply Classical.byContradiction
  intro hk
  have h3 : (256 : Nat) ^ 2 ≤ 256 ^ k := Nat.pow_le_pow_right (by decide) (by omega)
  have h4 : 281474976710657 * 256 ^ 2 ≤ lowS n j * 256 ^ k := Nat.mul_le_mul (by omega) h3
  have h5 : (281474976710657 : Nat) * 256 ^ 2 = 18446744073709617152 := by decide
  rw [h5] at h4
  generalize lowS n j * 256 ^ k = Z at *
  omega

end Go.Proofs.Ytbhpcpcpccmacaa

namespace Go.Proofs.Ytbhpcpcpccmacaa
open Go.RowKit Go.Shelf

/-- What check says. -/
def chkE (n cx : Int) (ctx : List Int) : Nat :=
  if n < 1 ∨ 256 < n ∨ cx < 1 ∨ 64 < cx then 2
  else if 65536 < ctx.length then 7
  else if ∀ c ∈ ctx, 0 ≤ c ∧ c < cx then 0 else 2

set_option maxRecDepth 100000 in
set_option maxHeartbeats 4000000 in
theorem check_calls {v : Value} {n cx : Int} {ctx : List Int} {w : World} (hrd : RdS w v ctx.length 1 (ctx.map iv)) :
    Calls Try.prog 49 #[.int .i64 n, .int .i64 cx, v] w fun e w' => e = .returned (.int .i64 (chkE n cx ctx : Int)) ∧ w = w' := by
  obtain ⟨a, cap, rfl⟩ := hrd.form
  unfold chkE
  by_cases h1 : n < 1
  · rw [if_pos (.inl h1)]
    go_enter Try.func49, Try.ntmps49
    go_wp2_with fail
    go_ret
    exact ⟨rfl, rfl⟩
  by_cases h2 : 256 < n
  · rw [if_pos (.inr (.inl h2))]
    go_enter Try.func49, Try.ntmps49
    go_wp2_with fail
    go_ret
    exact ⟨rfl, rfl⟩
  by_cases h3 : cx < 1
  · rw [if_pos (.inr (.inr (.inl h3)))]
    go_enter Try.func49, Try.ntmps49
    go_wp2_with fail
    go_ret
    exact ⟨rfl, rfl⟩
  by_cases h4 : 64 < cx
  · rw [if_pos (.inr (.inr (.inr h4)))]
    go_enter Try.func49, Try.ntmps49
    go_wp2_with fail
    go_ret
    exact ⟨rfl, rfl⟩
  rw [if_neg (by omega)]
  by_cases h5 : 65536 < ctx.length
  · rw [if_pos h5]
    go_enter Try.func49, Try.ntmps49
    go_wp2_with fail
    go_ret
    exact ⟨rfl, rfl⟩
  rw [if_neg h5]
  obtain ⟨rv, hrv⟩ : ∃ rv : Nat, rv = if ∀ c ∈ ctx, 0 ≤ c ∧ c < cx then 0 else 2 := ⟨_, rfl⟩
  rw [← hrv]
  have HRV := Lib.hid hrv
  clear hrv
  go_enter Try.func49, Try.ntmps49
  go_wp2_with fail
  go_loopg [28] ctx.length (fun gk i wr => wr = w ∧ ∃ t : Nat, Hid (t ≤ ctx.length ∧ gk = ctx.length - t) ∧ Hid (∀ c ∈ ctx.take t, 0 ≤ c ∧ c < cx) ∧ i = .int .i64 (t : Int))
  case atStart => exact ⟨rfl, 0, Lib.hid ⟨by omega, rfl⟩, Lib.hid (by simp), rfl⟩
  case round =>
    obtain ⟨rfl, t, hq, hh, rfl⟩ := hrel
    obtain ⟨q1, q2⟩ := hq.out
    clear hq
    by_cases ht : t < ctx.length
    · obtain ⟨g, o, cap', he⟩ := hrd.open (by omega)
      simp only [Value.slice.injEq, true_and] at he
      obtain ⟨rfl, rfl⟩ := he
      have k1 : wr.cell? ⟨g, o + t, none⟩ = some (.int .i64 ctx[t]) := hrd.cell t (iv_get ht)
      have HT := Lib.hid (List.take_succ_eq_append_getElem ht)
      have HM := Lib.hid (List.getElem_mem ht)
      have hti : (t : Int) < (ctx.length : Int) := by omega
      generalize ctx[t] = x at k1 HT HM
      by_cases c1 : x < 0
      · have hr : rv = 2 := by rw [HRV.out, if_neg (fun h => by have := h x HM.out; omega)]
        have HR := Lib.hid hr
        clear hr
        go_wp2_with fail
        go_ret
        rw [HR.out]
        exact ⟨rfl, rfl⟩
      by_cases c2 : cx ≤ x
      · have hr : rv = 2 := by rw [HRV.out, if_neg (fun h => by have := h x HM.out; omega)]
        have HR := Lib.hid hr
        clear hr
        go_wp2_with fail
        go_ret
        rw [HR.out]
        exact ⟨rfl, rfl⟩
      have HN : Hid (∀ c ∈ ctx.take (t + 1), 0 ≤ c ∧ c < cx) := Lib.hid (by
        rw [HT.out]
        intro y hy
        rcases List.mem_append.1 hy with hy | hy
        · exact hh.out y hy
        · have : y = x := by simpa using hy
          omega)
      go_wp2_with fail
      go_roundg (ctx.length - (t + 1))
      case rel => exact ⟨rfl, t + 1, Lib.hid ⟨by omega, rfl⟩, HN, by go_num⟩
      case measure => omega
    · obtain rfl : t = ctx.length := by omega
      have hall := hh.out
      rw [List.take_length] at hall
      have hr : rv = 0 := by rw [HRV.out, if_pos hall]
      have HR := Lib.hid hr
      clear hr hall hh
      go_wp2_with fail
      go_ret
      rw [HR.out]
      exact ⟨rfl, rfl⟩

end Go.Proofs.Ytbhpcpcpccmacaa

namespace Go.Proofs.Ytbhpcpcpccmacaa
open Go.RowKit Go.Shelf

theorem perm_erase {α : Type} : ∀ {L : List α} {c : Nat} (h : c < L.length), (L[c] :: L.eraseIdx c).Perm L
  | _ :: _, 0, _ => .refl _
  | x :: L, c + 1, h => by
    have := perm_erase (L := L) (c := c) (by simpa using h)
    exact (List.Perm.swap _ _ _).trans (this.cons x)
theorem Sep.all_focus {w : World} {L F : List HP} {c : Nat} {X : HP} (h : Sep w (HP.all L :: F)) (hc : L[c]? = some X) : Sep w (X :: HP.all (L.eraseIdx c) :: F) := by
  obtain ⟨hl, hX⟩ := List.getElem?_eq_some_iff.1 hc
  have h1 := h.all_elim
  have p : (L ++ F).Perm (L.eraseIdx c ++ (X :: F)) := by
    have p1 : (L[c] :: L.eraseIdx c).Perm L := perm_erase hl
    rw [hX] at p1
    exact ((p1.symm.append_right F).trans (List.perm_middle.symm))
  exact (Sep.all_intro (h1.perm p)).swap
theorem Sep.all_back {w : World} {L F : List HP} {c : Nat} {X : HP} (h : Sep w (X :: HP.all (L.eraseIdx c) :: F)) (hc : c < L.length) : Sep w (HP.all (L.set c X) :: F) := by
  have h1 := h.swap.all_elim
  have hl : c < (L.set c X).length := by rw [List.length_set]; exact hc
  have p : (L.eraseIdx c ++ (X :: F)).Perm (L.set c X ++ F) := by
    have p1 : ((L.set c X)[c] :: (L.set c X).eraseIdx c).Perm (L.set c X) := perm_erase hl
    rw [List.getElem_set_self, List.eraseIdx_set_eq] at p1
    exact (List.perm_middle).trans (p1.append_right F)
  exact Sep.all_intro (h1.perm p)
theorem Sep.all_snoc {w : World} {L F : List HP} {X : HP} (h : Sep w (X :: HP.all L :: F)) : Sep w (HP.all (L ++ [X]) :: F) := by
  have h1 := h.swap.all_elim
  refine Sep.all_intro ?_
  rw [List.append_assoc]
  exact h1
theorem Sep.all_emp {w : World} {F : List HP} (h : Sep w F) : ∀ n, Sep w (HP.all (List.replicate n (HP.all [])) :: F)
  | 0 => Sep.all_intro h
  | n + 1 => by
    rw [List.replicate_succ']
    exact Sep.all_snoc (Sep.all_intro (by exact h.all_emp n))

/-- A table that may not be there yet. -/
def TblO (ob : Option Nat) (cs : List Int) : HP := match ob with
  | none => HP.all []
  | some b => Tbl b cs
def tpv : Option Nat → Value
  | none => .pointer none
  | some b => .pointer (some ⟨b, 0, none⟩)
/-- The tables of a row, by the counts of each context. -/
def Tabs (obs : List (Option Nat)) (T : Nat → List Int) : HP := HP.all (obs.mapIdx fun c ob => TblO ob (T c))
def upT (T : Nat → List Int) (c : Nat) (cs : List Int) : Nat → List Int := fun c' => if c' = c then cs else T c'
/-- All but one. -/
def TabsBut (obs : List (Option Nat)) (T : Nat → List Int) (c : Nat) : HP := HP.all ((obs.mapIdx fun c ob => TblO ob (T c)).eraseIdx c)
theorem Tabs.focus {w : World} {obs : List (Option Nat)} {T : Nat → List Int} {F : List HP} {c b : Nat} (h : Sep w (Tabs obs T :: F)) (hc : obs[c]? = some (some b)) : Sep w (Tbl b (T c) :: TabsBut obs T c :: F) :=
  Sep.all_focus h (by rw [List.getElem?_mapIdx, hc]; rfl)
theorem tabs_set {obs : List (Option Nat)} {T : Nat → List Int} {c : Nat} {ob : Option Nat} {cs : List Int} : ((obs.mapIdx fun c ob => TblO ob (T c)).set c (TblO ob cs)) = (obs.set c ob).mapIdx fun c' ob => TblO ob (upT T c cs c') := by
  refine List.ext_getElem (by simp) fun i h1 h2 => ?_
  simp only [List.getElem_set, List.getElem_mapIdx, upT]
  by_cases h : c = i
  · subst h; simp
  · rw [if_neg h, if_neg h, if_neg (fun e => h e.symm)]
theorem Tabs.back {w : World} {obs : List (Option Nat)} {T : Nat → List Int} {F : List HP} {c b : Nat} {cs : List Int} (h : Sep w (Tbl b cs :: TabsBut obs T c :: F)) (hc : obs[c]? = some (some b)) : Sep w (Tabs obs (upT T c cs) :: F) := by
  obtain ⟨hl, hX⟩ := List.getElem?_eq_some_iff.1 hc
  have h1 := Sep.all_back (X := TblO (some b) cs) h (by simpa using hl)
  rw [tabs_set] at h1
  have e : obs.set c (some b) = obs := by rw [← hX]; exact List.set_getElem_self hl
  rw [e] at h1
  exact h1
/-- One more that wasn't there. -/
theorem Tabs.make {w : World} {obs : List (Option Nat)} {T : Nat → List Int} {F : List HP} {c b : Nat} (h : Sep w (Tbl b (T c) :: Tabs obs T :: F)) (hc : obs[c]? = some none) : Sep w (Tabs (obs.set c (some b)) T :: F) := by
  obtain ⟨hl, -⟩ := List.getElem?_eq_some_iff.1 hc
  have h0 := (Sep.all_focus (X := HP.all []) (c := c) h.swap (by rw [List.getElem?_mapIdx, hc]; rfl)).tail.swap
  have h1 := Sep.all_back (X := TblO (some b) (T c)) h0 (by simpa using hl)
  rw [tabs_set] at h1
  have e : upT T c (T c) = T := by
    funext c'
    unfold upT
    split
    · subst c'; rfl
    · rfl
  rw [e] at h1
  exact h1
theorem Tabs.nil {w : World} {T : Nat → List Int} {F : List HP} (h : Sep w F) (n : Nat) : Sep w (Tabs (List.replicate n none) T :: F) := by
  have := h.all_emp n
  unfold Tabs
  have e : (List.replicate n none).mapIdx (fun c ob => TblO ob (T c)) = List.replicate n (HP.all []) := by
    refine List.ext_getElem (by simp) fun i h1 h2 => ?_
    simp [TblO]
  rw [e]
  exact this
theorem Tabs.snoc {w : World} {obs : List (Option Nat)} {T : Nat → List Int} {F : List HP} {b : Nat} (h : Sep w (Tbl b (T obs.length) :: Tabs obs T :: F)) : Sep w (Tabs (obs ++ [some b]) T :: F) := by
  have := Sep.all_snoc h
  unfold Tabs
  rw [List.mapIdx_append]
  simp only [List.mapIdx_cons, List.mapIdx_nil, Nat.zero_add]
  exact this
theorem tpv_one (l : List (Option Nat)) : ∀ u ∈ l.map tpv, u.oneCell' = true := by
  intro u hu
  obtain ⟨ob, -, rfl⟩ := List.mem_map.1 hu
  cases ob <;> rfl
theorem info_tptr : (Try.prog.info? 79).map (fun i => (i.zero, i.size, i.bytes)) = some (some (.pointer none), 1, 8) := by kernel_rfl
theorem tpv_at {l : List (Option Nat)} {i : Nat} {ob : Option Nat} (h : l[i]? = some ob) : (l.map tpv)[i]? = some (tpv ob) := by rw [List.getElem?_map, h]; rfl
theorem onesTo_set {n t : Nat} (h : t < n) : ((List.replicate t (1 : Int) ++ List.replicate (n - t) 0).map iv).set t (.int .i64 1) = (List.replicate (t + 1) (1 : Int) ++ List.replicate (n - (t + 1)) 0).map iv := by
  have e : n - t = (n - (t + 1)) + 1 := by omega
  rw [e, List.replicate_succ, List.map_append, List.set_append_right _ _ (by simp), List.length_map, List.length_replicate, Nat.sub_self, List.replicate_succ', List.map_cons, List.set_cons_zero]
  simp [iv]

set_option maxRecDepth 100000 in
set_option maxHeartbeats 4000000 in
theorem tables_calls {n cx : Nat} {F : List HP} {w : World} (hn1 : 1 ≤ n) (hn2 : n ≤ 256) (hc : cx ≤ 64) (H : Sep w F) :
    Calls Try.prog 79 #[.int .i64 (n : Int), .int .i64 (cx : Int)] w (Gives fun r w' => ∃ obs : List (Option Nat), obs.length = cx ∧ (∀ c, c < cx → ∃ b, obs[c]? = some (some b)) ∧ Sep w' (HP.row 79 1 r cx (obs.map tpv) :: Tabs obs (fun _ => onesI n) :: F)) := by
  have hv := ones_ok hn1 hn2
  have HV := Lib.hid hv
  clear hv
  go_enter Try.func79, Try.ntmps79
  go_wp2_with ((at_make; go_must (refine wpList_make_sep rfl _ _ 40 rfl 3 (.int .i64 0) 8 Try.underlying40 info_iv rfl H .i64 .i64 _ _ n rfl rfl rfl rfl (by omega) (by unfold maxLen; omega) ?_); intro g w3 H3))
  have e0 : List.replicate n (Value.int .i64 0) = (List.replicate 0 (1 : Int) ++ List.replicate (n - 0) 0).map iv := by simp [iv]
  rw [e0] at H3
  clear e0
  go_wp2_with fail
  go_loopg [14] n (fun gk i wr => ∃ t : Nat, Hid (t ≤ n ∧ gk = n - t) ∧ i = .int .i64 (t : Int) ∧ Sep wr (HP.row 3 1 (.slice (some ⟨g, 0, none⟩) n n) n ((List.replicate t (1 : Int) ++ List.replicate (n - t) 0).map iv) :: F))
  case atStart => exact ⟨0, Lib.hid ⟨by omega, rfl⟩, rfl, H3⟩
  case round =>
    clear H3
    obtain ⟨t, hq, rfl, Hr⟩ := hrel
    obtain ⟨q1, q2⟩ := hq.out
    clear hq
    by_cases ht : t < n
    · have hti : (t : Int) < (n : Int) := by omega
      have hget : ((List.replicate t (1 : Int) ++ List.replicate (n - t) 0).map iv)[t]? = some (.int .i64 0) := by
        rw [List.getElem?_map, List.getElem?_append_right (by simp), List.length_replicate, Nat.sub_self, List.getElem?_replicate, if_pos (by omega)]
        rfl
      have c0 := Hr.row_cell t hget
      have f0 := Hr.row_froz t
      have H4 := Hr.row_set t (.int .i64 1)
      rw [onesTo_set ht] at H4
      clear hget
      go_wp2_with fail
      go_roundg (n - (t + 1))
      case rel => exact ⟨t + 1, Lib.hid ⟨by omega, rfl⟩, by go_num, H4⟩
      case measure => omega
    · obtain rfl : t = n := by omega
      rw [Nat.sub_self, List.replicate_zero, List.append_nil] at Hr
      have H4 : Sep wr (HP.row 3 1 (.slice (some ⟨g, 0, none⟩) t t) (onesI t).length ((onesI t).map iv) :: F) := by
        have : (onesI t).length = t := by simp [onesI]
        rw [this]; exact Hr
      have hol : (onesI t).length = t := by simp [onesI]
      clear Hr
      have H5 := (Tabs.nil (T := fun _ => onesI t) H4 0).row_nil 79 1
      clear H4
      go_wp2_with fail
      go_loopg [7, 22] cx (fun gk lv i wr => ∃ (d : Nat) (la : Option Addr) (lc : Nat) (obs : List (Option Nat)), Hid (d ≤ cx ∧ gk = cx - d ∧ obs.length = d ∧ ∀ c, c < d → ∃ b, obs[c]? = some (some b)) ∧ lv = .slice la d lc ∧ i = .int .i64 (d : Int) ∧ Sep wr (HP.row 79 1 (.slice la d lc) d (obs.map tpv) :: Tabs obs (fun _ => onesI t) :: HP.row 3 1 (.slice (some ⟨g, 0, none⟩) t t) (onesI t).length ((onesI t).map iv) :: F))
      case atStart => exact ⟨0, none, 0, [], Lib.hid ⟨by omega, rfl, rfl, fun c hc => absurd hc (by omega)⟩, rfl, rfl, H5⟩
      case round =>
        clear H5
        obtain ⟨d, la, lc, obs, hq, rfl, rfl, Hr⟩ := hrel
        obtain ⟨p1, p2, p3, p4⟩ := hq.out
        clear hq
        by_cases hd : d < cx
        · have hdi : (d : Int) < (cx : Int) := by omega
          have HP4 := Lib.hid p4
          have N1 := new_calls (v := .slice (some ⟨g, 0, none⟩) t t) (xs := onesI t) (by rw [hol]; exact Reads.cons (Reads.cons (by rw [← hol]; exact Reads.row))) Hr
          clear p4
          go_wp2_with fail
          refine N1.mono ?_
          rintro e w5 ⟨r, rfl, ⟨hne, -, -⟩ | ⟨-, b, rfl, H6⟩⟩
          · exact absurd (tabErr_of HV.out) hne
          have HA := H6.alloc #[.pointer (some ⟨b, 0, none⟩)] 79
          have hrn := rd_new HA
          have HB := HA.rot3
          have h63 : d + 1 ≤ maxLen := by unfold maxLen; omega
          have hby : (d + 1) * 8 ≤ 140737488355328 := by omega
          have hm : obs.map tpv ++ [.pointer (some ⟨b, 0, none⟩)] = (obs ++ [some b]).map tpv := by simp [tpv]
          have HM := Lib.hid hm
          have HP3 := Lib.hid p3
          clear hm HA H6 Hr N1 p3
          go_wp2_with ((at_builtin; go_must (refine wpList_append_src rfl (.tmp 29) (.tmp 31) 76 rfl 79 (.pointer none) 1 8 Try.underlying76 info_tptr rfl (by decide) (.slice la d lc) d _ rfl HB (.slice (some ⟨w5.heap.size, 0, none⟩) 1 1) 1 [.pointer (some ⟨b, 0, none⟩)] rfl hrn (by intro u hu; simp at hu; subst hu; rfl) h63 hby ?_); intro v7 w7 H7; obtain ⟨va, vc, hv7⟩ := H7.row_form; subst hv7))
          rw [HM.out] at H7
          have H8 : Sep w7 (Tbl b ((fun _ => onesI t) obs.length) :: Tabs obs (fun _ => onesI t) :: HP.row 79 1 (.slice va (d + 1) vc) (d + 1) ((obs ++ [some b]).map tpv) :: HP.row 3 1 (.slice (some ⟨g, 0, none⟩) t t) (onesI t).length ((onesI t).map iv) :: F) := H7.swap.tail.mid2
          have H9 := (Tabs.snoc (T := fun _ => onesI t) (obs := obs) (b := b) H8).swap
          clear H7 H8
          go_roundg (cx - (d + 1))
          case rel => exact ⟨d + 1, va, vc, obs ++ [some b], Lib.hid ⟨by omega, rfl, by rw [List.length_append, HP3.out]; rfl, fun c hc => by
            rcases Nat.lt_or_ge c d with h | h
            · obtain ⟨b', hb'⟩ := HP4.out c h
              exact ⟨b', by rw [List.getElem?_append_left (by rw [HP3.out]; exact h)]; exact hb'⟩
            · obtain rfl : c = d := by omega
              exact ⟨b, by rw [List.getElem?_append_right (by rw [HP3.out]; omega), HP3.out, Nat.sub_self]; rfl⟩⟩, rfl, by go_num, H9⟩
          case measure => omega
        · obtain rfl : d = cx := by omega
          have hdi : ¬ (d : Int) < (d : Int) := by omega
          go_wp2_with fail
          go_ret
          exact ⟨_, rfl, obs, p3, p4, Sep.cons_congr Hr (fun _ h => h) |>.swap.rot3.tail.swap⟩

end Go.Proofs.Ytbhpcpcpccmacaa
