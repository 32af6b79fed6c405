/- coder: part, New, Encode. -/
import Derived.Test.YtglinpclcmmnbaaCod2
namespace Go.Proofs.Ytglinpclcmmnbaa
open Go.RowKit Go.Shelf

/-- A symbol's part: where it begins, and how wide it is. -/
def ptF (cs : List Int) (s R : Nat) : Nat := (isum (cs.take s)).toNat * (R / (isum cs).toNat)
def ptW (cs : List Int) (s R : Nat) : Nat := if s + 1 = cs.length then R - ptF cs s R else (cs.getD s 0).toNat * (R / (isum cs).toNat)
theorem last_iff {cs : List Int} {s : Nat} (hp : ∀ x ∈ cs, 1 ≤ x) (h : s < cs.length) : isum (cs.take (s + 1)) = isum cs ↔ s + 1 = cs.length := by
  have h1 : isum cs = isum (cs.take (s + 1)) + isum (cs.drop (s + 1)) := by rw [← isum_append, List.take_append_drop]
  have h2 := isum_nonneg (l := cs.drop (s + 1)) (fun x hx => hp x (List.mem_of_mem_drop hx))
  rw [List.length_drop] at h2
  constructor
  · intro h3; omega
  · intro h3; rw [h3, List.take_length]
theorem pt_spec {cs : List Int} {s R : Nat} (hv : Vt cs) (h : s < cs.length) (hR : 16777216 ≤ R) :
    ptF cs s R + ptW cs s R ≤ R ∧ 1 ≤ ptW cs s R ∧ (s + 1 = cs.length → ptF cs s R + ptW cs s R = R) ∧ (s + 1 < cs.length → ptF cs s R + ptW cs s R = ptF cs (s + 1) R) := by
  obtain ⟨v1, v2, v3, v4⟩ := hv
  have hs := isum_take_succ h
  have h0 := isum_take_nonneg v3 s
  have hle := isum_take_le v3 (s + 1)
  have hx := v3 cs[s] (List.getElem_mem h)
  have hpos := isum_nonneg v3
  have hg : cs.getD s 0 = cs[s] := getD_get h
  unfold ptW
  rw [hg]
  unfold ptF
  rw [hs]
  generalize isum (cs.take s) = c at *
  generalize cs[s] = f at *
  rw [hs] at hle
  generalize isum cs = n at *
  obtain ⟨c, rfl⟩ := Int.eq_ofNat_of_zero_le h0
  obtain ⟨f, rfl⟩ := Int.eq_ofNat_of_zero_le (show 0 ≤ f by omega)
  obtain ⟨n, rfl⟩ := Int.eq_ofNat_of_zero_le (show 0 ≤ n by omega)
  rw [show ((c : Int) + (f : Int)).toNat = c + f by omega]
  simp only [Int.toNat_natCast]
  have hn : 0 < n := by omega
  have hr : 1 ≤ R / n := (Nat.le_div_iff_mul_le hn).2 (by omega)
  have hnr : n * (R / n) ≤ R := Nat.mul_div_le _ _
  have hcf : (c + f) * (R / n) ≤ n * (R / n) := Nat.mul_le_mul_right _ (by omega)
  rw [Nat.add_mul] at hcf ⊢
  have hf : 1 * 1 ≤ f * (R / n) := Nat.mul_le_mul (by omega) hr
  split
  · refine ⟨by omega, by omega, by omega, by omega⟩
  · refine ⟨by omega, by omega, by omega, by omega⟩

set_option maxRecDepth 100000 in
set_option maxHeartbeats 2000000 in
theorem part_calls {b s R : Nat} {cs : List Int} {F : List HP} {w : World} (hv : Vt cs) (hs : s < cs.length) (hR : R ≤ 4294967296) (H : Sep w (Tbl b cs :: F)) :
    Calls Try.prog 56 #[.pointer (some ⟨b, 0, none⟩), .int .i64 (s : Int), .int .u64 (R : Int)] w fun e w' => e = .returned (.tuple #[.int .u64 (ptF cs s R : Int), .int .u64 (ptW cs s R : Int)]) ∧ w = w' := by
  have hlow : lowI cs s = isum (cs.take s) := by unfold lowI; rw [if_pos ⟨by omega, by omega⟩, Int.toNat_natCast]
  have hcnt : countI cs s = cs[s] := by unfold countI; rw [if_pos ⟨by omega, by omega⟩, Int.toNat_natCast, getD_get hs]
  have hli := last_iff hv.2.2.1 hs
  obtain ⟨v1, v2, v3, v4⟩ := hv
  have h1 := isum_take_succ hs
  have h0 := isum_take_nonneg v3 s
  have hle := isum_take_le v3 (s + 1)
  have hx := v3 cs[s] (List.getElem_mem hs)
  have hpos := isum_nonneg v3
  have hg : cs.getD s 0 = cs[s] := getD_get hs
  have eF : ptF cs s R = (isum (cs.take s)).toNat * (R / (isum cs).toNat) := rfl
  have eW : ptW cs s R = if s + 1 = cs.length then R - ptF cs s R else (cs.getD s 0).toNat * (R / (isum cs).toNat) := rfl
  rw [hg] at eW
  have L1 := low_calls (i := (s : Int)) ⟨v1, v2, v3, v4⟩ H
  have C1 := count_calls (i := (s : Int)) H
  have T1 := total_calls H
  rw [hlow] at L1
  rw [hcnt] at C1
  rw [h1] at hli hle
  generalize ptF cs s R = pf at *
  generalize ptW cs s R = pw at *
  generalize isum (cs.take s) = c at *
  generalize cs[s] = f at *
  generalize isum cs = n at *
  obtain ⟨c, rfl⟩ := Int.eq_ofNat_of_zero_le h0
  obtain ⟨f, rfl⟩ := Int.eq_ofNat_of_zero_le (show 0 ≤ f by omega)
  obtain ⟨n, rfl⟩ := Int.eq_ofNat_of_zero_le (show 0 ≤ n by omega)
  simp only [Int.toNat_natCast] at eF eW
  have hn : 0 < n := by omega
  have hnr : n * (R / n) ≤ R := Nat.mul_div_le _ _
  have hcf : (c + f) * (R / n) ≤ n * (R / n) := Nat.mul_le_mul_right _ (by omega)
  rw [Nat.add_mul] at hcf
  have wr : ∀ x : Nat, x ≤ 4294967296 → IntKind.u64.wrap (x : Int) = (x : Int) := fun x hx => by
    simp only [IntKind.wrap, IntKind.signed, IntKind.bits]
    first | omega | (simp; omega)
  have wi : ∀ x : Nat, x ≤ 4294967296 → IntKind.i64.wrap (x : Int) = (x : Int) := fun x hx => by
    simp only [IntKind.wrap, IntKind.signed, IntKind.bits]
    first | omega | (simp; omega)
  have n0 : ((n : Int) == 0) = false := by simp; omega
  have n1 : (n : Int) ≠ 0 := by omega
  have n2 : ¬ n = 0 := by omega
  have wc := wr c (by omega)
  have wf := wr f (by omega)
  have wn := wr n (by omega)
  have wcf := wr (c + f) (by omega)
  have icf := wi (c + f) (by omega)
  have hdl : R / n ≤ 4294967296 := Nat.le_trans (Nat.div_le_self _ _) hR
  have hdv : (R : Int) / (n : Int) = ((R / n : Nat) : Int) := rfl
  have hdt : (R : Int).tdiv (n : Int) = ((R / n : Nat) : Int) := rfl
  generalize R / n = r at *
  have hm1 : (c : Int) * (r : Int) = ((c * r : Nat) : Int) := by simp
  have hm2 : (f : Int) * (r : Int) = ((f * r : Nat) : Int) := by simp
  generalize c * r = p1 at *
  generalize f * r = p2 at *
  have wm1 := wr p1 (by omega)
  have wm2 := wr p2 (by omega)
  have wd := wr r hdl
  have EF := Lib.hid eF
  have hp12 : p1 + p2 ≤ R := by omega
  clear wr wi eF hnr hcf h1 hg hlow hcnt
  by_cases hl : s + 1 = cs.length
  · have hb : (c : Int) + (f : Int) = (n : Int) := hli.2 hl
    rw [if_pos hl] at eW
    have EW := Lib.hid eW
    have hsub : ((R : Int) - (p1 : Int)) = ((R - p1 : Nat) : Int) := by omega
    clear eW
    go_enter Try.func56, Try.ntmps56
    go_wp2_with fail
    refine T1.mono ?_
    rintro _ _ ⟨rfl, rfl⟩
    go_wp2_with fail
    refine L1.mono ?_
    rintro _ _ ⟨rfl, rfl⟩
    go_wp2_with fail
    refine C1.mono ?_
    rintro _ _ ⟨rfl, rfl⟩
    go_wp2_with fail
    refine T1.mono ?_
    rintro _ _ ⟨rfl, rfl⟩
    go_wp2_with fail
    go_ret2
    exact ⟨by rw [EW.out, EF.out]; rfl, rfl⟩
  · have hb : ¬ (c : Int) + (f : Int) = (n : Int) := fun h => hl (hli.1 h)
    rw [if_neg hl] at eW
    have EW := Lib.hid eW
    clear eW
    go_enter Try.func56, Try.ntmps56
    go_wp2_with fail
    refine T1.mono ?_
    rintro _ _ ⟨rfl, rfl⟩
    go_wp2_with fail
    refine L1.mono ?_
    rintro _ _ ⟨rfl, rfl⟩
    go_wp2_with fail
    refine C1.mono ?_
    rintro _ _ ⟨rfl, rfl⟩
    go_wp2_with fail
    refine T1.mono ?_
    rintro _ _ ⟨rfl, rfl⟩
    go_wp2_with fail
    go_ret2
    exact ⟨by rw [EW.out, EF.out]; rfl, rfl⟩

set_option maxRecDepth 100000 in
set_option maxHeartbeats 2000000 in
theorem cnew_calls {F : List HP} {w : World} (H : Sep w F) :
    Calls Try.prog 36 #[] w fun e w' => ∃ q, e = .returned (.pointer (some ⟨q, 0, none⟩)) ∧ Sep w' (Enc q 0 0 4294967296 :: F) := by
  have H1 := H.alloc #[.slice none 0 0, .int .u64 0, .int .u64 4294967296] 86
  have H2 : Sep _ (Enc w.heap.size 0 0 4294967296 :: F) := Enc.shut (v := .slice none 0 0) (Sep.swap (H1.row_nil _ 1))
  go_enter Try.func36, Try.ntmps36
  go_wp2_with fail
  go_ret
  exact ⟨_, rfl, H2⟩

/-- The interval behind a symbol. -/
def stepI (x : Nat × Nat × Nat) (cs : List Int) (s : Nat) : Nat × Nat × Nat :=
  (x.1 + shS (ptW cs s x.2.2), (x.2.1 + ptF cs s x.2.2) * 256 ^ shS (ptW cs s x.2.2), ptW cs s x.2.2 * 256 ^ shS (ptW cs s x.2.2))
theorem shS_le2 {R : Nat} (h : 256 ≤ R) : shS R ≤ 2 := by unfold shS; split <;> (try split) <;> (try split) <;> omega
theorem ptW_big {cs : List Int} {s R : Nat} (hv : Vt cs) (h : s < cs.length) (hR : 16777216 ≤ R) : 256 ≤ ptW cs s R := by
  obtain ⟨p1, p2, p3, p4⟩ := pt_spec hv h hR
  obtain ⟨v1, v2, v3, v4⟩ := hv
  have hpos := isum_nonneg v3
  have hx := v3 cs[s] (List.getElem_mem h)
  have hg : cs.getD s 0 = cs[s] := getD_get h
  have h1 := isum_take_succ h
  have h0 := isum_take_nonneg v3 s
  have hle := isum_take_le v3 (s + 1)
  unfold ptW ptF
  rw [hg]
  rw [h1] at hle
  generalize isum (cs.take s) = c at *
  generalize cs[s] = f at *
  generalize isum cs = n at *
  obtain ⟨c, rfl⟩ := Int.eq_ofNat_of_zero_le h0
  obtain ⟨f, rfl⟩ := Int.eq_ofNat_of_zero_le (show 0 ≤ f by omega)
  obtain ⟨n, rfl⟩ := Int.eq_ofNat_of_zero_le (show 0 ≤ n by omega)
  simp only [Int.toNat_natCast]
  have hn : 0 < n := by omega
  have hr : 256 ≤ R / n := (Nat.le_div_iff_mul_le hn).2 (by omega)
  have hnr : n * (R / n) ≤ R := Nat.mul_div_le _ _
  have hcf : (c + f) * (R / n) ≤ n * (R / n) := Nat.mul_le_mul_right _ (by omega)
  rw [Nat.add_mul] at hcf
  have hf : 1 * 256 ≤ f * (R / n) := Nat.mul_le_mul (by omega) hr
  split <;> omega
theorem stepI_iv {k L R : Nat} {cs : List Int} {s : Nat} (hI : Iv k L R) (hv : Vt cs) (h : s < cs.length) :
    Iv (stepI (k, L, R) cs s).1 (stepI (k, L, R) cs s).2.1 (stepI (k, L, R) cs s).2.2 ∧ (stepI (k, L, R) cs s).1 ≤ k + 2 := by
  obtain ⟨i1, i2, i3⟩ := hI
  obtain ⟨p1, p2, -, -⟩ := pt_spec hv h i1
  obtain ⟨s1, s2, s3⟩ := shS_spec p2 (by omega)
  have h2 := shS_le2 (ptW_big hv h i1)
  refine ⟨⟨s2, s3, ?_⟩, by simp only [stepI]; omega⟩
  simp only [stepI]
  rw [← Nat.add_mul, show k + shS (ptW cs s R) + 4 = (k + 4) + shS (ptW cs s R) by omega, Nat.pow_add]
  exact Nat.mul_le_mul_right _ (by omega)

/-- An encoder at an interval. -/
def EncI (q : Nat) (x : Nat × Nat × Nat) : HP := Enc q x.1 x.2.1 x.2.2
def IvI (x : Nat × Nat × Nat) : Prop := Iv x.1 x.2.1 x.2.2

set_option maxRecDepth 100000 in
set_option maxHeartbeats 2000000 in
theorem encode_ok {b q s : Nat} {x : Nat × Nat × Nat} {cs : List Int} {F : List HP} {w : World} (hI : IvI x) (hk : x.1 ≤ 1000) (hv : Vt cs) (hs : s < cs.length) (H : Sep w (EncI q x :: Tbl b cs :: F)) :
    Calls Try.prog 38 #[.pointer (some ⟨q, 0, none⟩), .pointer (some ⟨b, 0, none⟩), .int .i64 (s : Int)] w fun e w' => e = .returned (.int .i64 0) ∧ Sep w' (EncI q (stepI x cs s) :: Tbl b cs :: F) := by
  obtain ⟨k, L, R⟩ := x
  change Sep w (Enc q k L R :: Tbl b cs :: F) at H
  have hI : Iv k L R := hI
  obtain ⟨p1, p2, -, -⟩ := pt_spec hv hs hI.1
  have C1 := come_calls hI p1 p2 hk H
  obtain ⟨a, c, H0⟩ := Enc.open H
  have c2 := H0.cell 2 rfl
  have S1 := symbols_calls H.swap
  have P1 := part_calls hv hs hI.2.1 H.swap
  have h1 : ((cs.length : Int) == 0) = false := by simp; intro h; subst h; exact absurd hs (by simp)
  have h2 : ¬ cs = [] := by intro h; subst h; exact absurd hs (by simp)
  have h3 : ¬ (cs.length : Int) ≤ (s : Int) := by omega
  have hIR := hI.2.1
  generalize hpf : ptF cs s R = pf at *
  generalize hpw : ptW cs s R = pw at *
  have HPF := Lib.hid hpf
  have HPW := Lib.hid hpw
  clear hpf hpw
  go_enter Try.func38, Try.ntmps38
  go_wp2_with fail
  refine S1.mono ?_
  rintro _ _ ⟨rfl, rfl⟩
  go_wp2_with fail
  refine S1.mono ?_
  rintro _ _ ⟨rfl, rfl⟩
  go_wp2_with fail
  refine P1.mono ?_
  rintro _ _ ⟨rfl, rfl⟩
  go_wp2_with fail
  refine C1.mono ?_
  rintro _ _ ⟨⟨u, rfl⟩, H2⟩
  go_wp2_with fail
  go_ret
  refine ⟨rfl, ?_⟩
  unfold EncI stepI
  simp only
  rw [HPF.out, HPW.out]
  exact H2

end Go.Proofs.Ytglinpclcmmnbaa
