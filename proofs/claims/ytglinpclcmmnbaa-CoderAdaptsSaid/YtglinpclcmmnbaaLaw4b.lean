/- Law 04: CoderFew. -/
import Derived.Test.YtglinpclcmmnbaaCod8
namespace Go.Proofs.Ytglinpclcmmnbaa
open Go.RowKit Go.Shelf

theorem IsCode.short {k L R : Nat} {c : List Nat} (h : IsCode (k + 4) L R c) (hR : 16777216 ≤ R) : c.length ≤ k + 1 := by
  obtain ⟨n, a1, a2, a3, rfl⟩ := h
  rw [digs_length]
  apply Nat.le_of_not_lt
  intro hn
  refine a2 (k + 1) hn ?_
  unfold OkN
  rw [show k + 4 - (k + 1) = 3 by omega, show (256 : Nat) ^ 3 = 16777216 by decide]
  omega
def fewL (c : Nat) : List Int := List.replicate 256 (c : Int)
theorem fewL_length (c : Nat) : (fewL c).length = 256 := List.length_replicate
theorem isum_replicate (n : Nat) (x : Int) : isum (List.replicate n x) = n * x := by
  induction n with
  | zero => simp [isum]
  | succ n ih => rw [List.replicate_succ, isum, ih, show ((n + 1 : Nat) : Int) = (n : Int) + 1 by omega, Int.add_mul, Int.one_mul, Int.add_comm]
theorem fewL_sum (c : Nat) : isum (fewL c) = 256 * (c : Int) := by rw [fewL, isum_replicate]; rfl
theorem fewL_ok {c : Nat} (h1 : 1 ≤ c) (h2 : c ≤ 200) : Vt (fewL c) := by
  refine ⟨by rw [fewL_length]; decide, by rw [fewL_length]; decide, fun x hx => ?_, by rw [fewL_sum]; omega⟩
  rw [(List.mem_replicate.1 hx).2]; omega
theorem few_width {c s R : Nat} (h1 : 1 ≤ c) (h2 : c ≤ 200) (hs : s < 256) (hR : 16777216 ≤ R) : R * 65336 ≤ 256 * ptW (fewL c) s R * 65536 := by
  have e0 : (isum (fewL c)).toNat = 256 * c := by rw [fewL_sum]; omega
  have e1 : (isum ((fewL c).take s)).toNat = s * c := by
    rw [fewL, List.take_replicate, Nat.min_eq_left (by omega), isum_replicate, ← Int.natCast_mul, Int.toNat_natCast]
  have e2 : ((fewL c).getD s 0).toNat = c := by
    rw [fewL, List.getD_eq_getElem?_getD, List.getElem?_replicate, if_pos hs]
    rfl
  have hd := Nat.div_add_mod R (256 * c)
  have hm := Nat.mod_lt R (show 0 < 256 * c by omega)
  have hW : c * (R / (256 * c)) ≤ ptW (fewL c) s R := by
    unfold ptW ptF
    rw [e0, e1, e2, fewL_length]
    split
    · next h =>
      obtain rfl : s = 255 := by omega
      generalize R / (256 * c) = r at *
      have e3 : 256 * c = 255 * c + c := by omega
      rw [e3, Nat.add_mul] at hd
      omega
    · exact Nat.le_refl _
  have h3 : 256 * (c * (R / (256 * c))) = 256 * c * (R / (256 * c)) := by rw [Nat.mul_assoc]
  omega
theorem few_alg {a t b c m1 m2 R e d f W : Nat} (hA : m2 * d ≤ m1 * e) (h : a * c * m1 ≤ b * R * d) (hw : R * e ≤ f * W * d) (hd : 0 < d) : a * t * c * m2 ≤ b * f * (W * t) * d := by
  apply Nat.le_of_mul_le_mul_right (c := d) _ hd
  calc a * t * c * m2 * d
      = a * t * c * (m2 * d) := by rw [Nat.mul_assoc]
    _ ≤ a * t * c * (m1 * e) := Nat.mul_le_mul_left _ hA
    _ = (a * c * m1) * (t * e) := by ac_rfl
    _ ≤ (b * R * d) * (t * e) := Nat.mul_le_mul_right _ h
    _ = (b * t * d) * (R * e) := by ac_rfl
    _ ≤ (b * t * d) * (f * W * d) := Nat.mul_le_mul_left _ hw
    _ = b * f * (W * t) * d * d := by ac_rfl
theorem few_step {c s i : Nat} {x : Nat × Nat × Nat} (h1 : 1 ≤ c) (h2 : c ≤ 200) (hs : s < 256) (hi : i ≤ 60) (hR : 16777216 ≤ x.2.2) (h : 256 ^ x.1 * 4294967296 * (65536 - 200 * i) ≤ 256 ^ i * x.2.2 * 65536) :
    256 ^ (stepI x (fewL c) s).1 * 4294967296 * (65536 - 200 * (i + 1)) ≤ 256 ^ (i + 1) * (stepI x (fewL c) s).2.2 * 65536 := by
  obtain ⟨k, L, R⟩ := x
  simp only at h hR
  simp only [stepI]
  have hw := few_width (R := R) h1 h2 hs hR
  generalize ptW (fewL c) s R = W at *
  generalize shS W = t
  have hA : (65536 - 200 * (i + 1)) * 65536 ≤ (65536 - 200 * i) * 65336 := by clear h hw; omega
  rw [Nat.pow_add, Nat.pow_succ]
  exact few_alg hA h hw (by decide)
theorem mul3_le {a b M m1 m2 : Nat} (h1 : a ≤ b) (h2 : m2 ≤ m1) : a * M * m2 ≤ b * M * m1 := Nat.mul_le_mul (Nat.mul_le_mul_right _ h1) h2
theorem few_end_alg {a b M R m1 D : Nat} (hb : 0 < b) (ha : 256 * b ≤ a) (hm : 53536 ≤ m1) (hR : R ≤ M) (hM : 0 < M) (hD : D = 65536) (h : a * M * m1 ≤ b * R * D) : False := by
  have h1 : 256 * b * M * 53536 ≤ a * M * m1 := mul3_le ha hm
  have h2 : b * R * D ≤ b * M * D := Nat.mul_le_mul_right _ (Nat.mul_le_mul_left _ hR)
  have h3 : 0 < b * M := Nat.mul_pos hb hM
  rw [show 256 * b * M = 256 * (b * M) by rw [Nat.mul_assoc]] at h1
  subst hD
  generalize b * M = y at *
  omega
theorem few_end {k i R : Nat} (hi : i ≤ 60) (hR : R ≤ 4294967296) (h : 256 ^ k * 4294967296 * (65536 - 200 * i) ≤ 256 ^ i * R * 65536) : k ≤ i := by
  apply Nat.le_of_not_lt
  intro hk
  have h1 : 256 ^ (i + 1) ≤ 256 ^ k := Nat.pow_le_pow_right (by decide) hk
  rw [Nat.pow_succ, Nat.mul_comm] at h1
  exact few_end_alg (Nat.pow_pos (by decide)) h1 (by omega) hR (by decide) rfl h
theorem stepI_one (c : Nat) : stepI firstI [(c : Int)] 0 = firstI := by
  have e1 : ptF [(c : Int)] 0 4294967296 = 0 := by simp [ptF, isum]
  have e2 : ptW [(c : Int)] 0 4294967296 = 4294967296 := by simp [ptW, e1]
  simp only [stepI, firstI, e1, e2]
  rfl
theorem Sep.pairs {w : World} {A B C D : HP} {L : List HP} (h : Sep w (A :: B :: C :: D :: L)) : Sep w (C :: D :: A :: B :: L) :=
  h.perm ((List.perm_append_comm (l₁ := [A, B]) (l₂ := [C, D])).append_right L)

def fewTo (c t : Nat) : List Int := List.replicate t (c : Int) ++ List.replicate (256 - t) 0
theorem fewTo_length {c t : Nat} (h : t ≤ 256) : (fewTo c t).length = 256 := by rw [fewTo, List.length_append, List.length_replicate, List.length_replicate]; omega
theorem fewTo_set {c t : Nat} (h : t < 256) : (fewTo c t).set t (c : Int) = fewTo c (t + 1) := by
  unfold fewTo
  have e : 256 - t = (256 - (t + 1)) + 1 := by omega
  rw [List.set_append_right _ _ (by rw [List.length_replicate]; exact Nat.le_refl _), List.length_replicate, Nat.sub_self, e, List.replicate_succ, List.set_cons_zero, List.replicate_succ' (n := t), List.append_assoc]
  rfl
theorem fewTo_end (c : Nat) : fewTo c 256 = fewL c := by
  unfold fewTo fewL
  rw [Nat.sub_self, List.replicate_zero, List.append_nil]
theorem fewTo_zero (c : Nat) : List.replicate 256 (Value.int .i64 0) = (fewTo c 0).map iv := by
  unfold fewTo
  rw [List.replicate_zero, List.nil_append, List.map_replicate]; rfl
theorem code_first {c : List Nat} (h : IsCode (firstI.1 + 4) firstI.2.1 firstI.2.2 c) : c = [] :=
  h.uniq ⟨0, by decide, fun j hj => absurd hj (by omega), by decide +kernel, rfl⟩

set_option maxRecDepth 100000 in
set_option maxHeartbeats 8000000 in
theorem law_CoderFew (a : Option Addr) (len cap : Nat) (z : List Int) {w : World} (hz : IsRow .u8 w a len cap z) (cnt : Int) (wc : (Lit.int .u8 cnt).wf = true) :
    Calls Try.prog 12 #[.slice a len cap, .int .u8 cnt] w fun e w' => e = .returned (.bool true) ∧ Below w.heap.size w w' := by
  have hrd : Reads [HP.old w.heap.size w] (.slice a len cap) len 1 ((z.take len).map (Value.int .u8)) := Reads.old hz.rd
  have hwz : ∀ x ∈ z.take len, 0 ≤ x ∧ x ≤ 255 := fun x hx => wf_u8 (hz.wf x hx)
  have hlz := hz.len
  obtain ⟨hc0, hc1⟩ := wf_u8 wc
  clear hz wc
  generalize z.take len = zs at *
  have H := Sep.start w
  generalize hB : HP.old w.heap.size w = O at H hrd
  have HB := Lib.hid hB; clear hB
  have HWZ := Lib.hid hwz
  clear hwz
  by_cases h60 : 60 < len
  · go_enter Try.func12, Try.ntmps12
    go_wp2_with fail
    refine (awake4 H).mono ?_
    rintro e w1 ⟨rfl, H1⟩
    go_wp2_with fail
    go_ret
    subst HB
    exact ⟨rfl, H1.below⟩
  obtain ⟨c, hcc⟩ : ∃ c : Nat, (c : Int) = 1 + cnt % 200 := ⟨(1 + cnt % 200).toNat, by omega⟩
  have hcb1 : 1 ≤ c := by omega
  have hcb2 : c ≤ 200 := by omega
  have hrem : cnt.tmod 200 = (c : Int) - 1 := by rw [Int.tmod_eq_emod_of_nonneg hc0]; omega
  have hrem2 : cnt % 200 = (c : Int) - 1 := by omega
  have hadd : 1 + ((c : Int) - 1) = (c : Int) := by omega
  clear hcc
  have HZ := Lib.hid (fewTo_zero c)
  go_enter Try.func12, Try.ntmps12
  go_wp2_with fail
  refine (awake4 H).mono ?_
  rintro e w1 ⟨rfl, H1⟩
  clear H
  go_wp2_with fail
  refine (cnew_calls H1).mono ?_
  rintro _ w2 ⟨q, rfl, H2⟩
  clear H1
  go_wp2_with ((at_make; go_must (refine wpList_make_sep rfl _ _ 22 rfl 3 (.int .i64 0) 8 Try.underlying22 info_iv rfl H2 .i64 .i64 256 256 256 rfl rfl rfl rfl (by omega) (by unfold maxLen; omega) ?_); intro g w3 H3))
  rw [HZ.out] at H3
  go_loopg [8] 256 (fun gk i wr => ∃ t : Nat, Hid (t ≤ 256 ∧ gk = 256 - t) ∧ i = .int .i64 (t : Int) ∧ Sep wr (HP.row 3 1 (.slice (some ⟨g, 0, none⟩) 256 256) 256 ((fewTo c t).map iv) :: EncI q firstI :: [O]))
  case atStart => exact ⟨0, Lib.hid ⟨by omega, rfl⟩, rfl, H3⟩
  case round =>
    clear H3 H2
    obtain ⟨t, hq, rfl, Hr⟩ := hrel
    obtain ⟨q1, q2⟩ := hq.out
    clear hq
    by_cases ct : t < 256
    · obtain ⟨u, hu⟩ : ∃ u, ((fewTo c t).map iv)[t]? = some u := ⟨_, List.getElem?_eq_getElem (by rw [List.length_map, fewTo_length q1]; exact ct)⟩
      have hc : wr.cell? ⟨g, t, none⟩ = some u := Hr.row_cell t hu
      have hf := Hr.row_froz t
      have hmap : ((fewTo c t).map iv).set t (.int .i64 (c : Int)) = (fewTo c (t + 1)).map iv := by rw [← fewTo_set ct, List.map_set]; rfl
      have H6 := Hr.row_set t (.int .i64 (c : Int))
      rw [hmap] at H6
      clear hu hmap
      go_wp2_with fail
      go_roundg (256 - (t + 1))
      case rel => exact ⟨t + 1, Lib.hid ⟨by omega, rfl⟩, by go_num, H6⟩
      case measure => omega
    · obtain rfl : t = 256 := by omega
      rw [fewTo_end] at Hr
      have hv : Vt (fewL c) := fewL_ok hcb1 hcb2
      have hv1 : Vt [(c : Int)] := ⟨by simp, by simp, by simp; omega, by simp [isum]; omega⟩
      have hfl := fewL_length c
      have MD := made_calls hv (v := .slice (some ⟨g, 0, none⟩) 256 256) (by rw [hfl]; exact Reads.row) Hr
      have HV := Lib.hid hv
      have HV1 := Lib.hid hv1
      clear hv hv1
      go_wp2_with fail
      refine MD.mono ?_
      rintro _ w4 ⟨_, rfl, bt, rfl, H4⟩
      clear MD Hr
      go_wp2_with fail
      have H5 : Sep (w4.alloc (.cells #[.int .i64 (c : Int)] 3)) (HP.row 3 1 (.slice (some ⟨w4.heap.size, 0, none⟩) 1 1) 1 (([(c : Int)] : List Int).map iv) :: _) := Sep.row_shut (H4.alloc #[.int .i64 (c : Int)] 3) (Nat.le_refl _) (by unfold maxLen; omega) rfl rfl
      refine (made_calls HV1.out (v := .slice (some ⟨w4.heap.size, 0, none⟩) 1 1) Reads.row H5).mono ?_
      rintro _ w5 ⟨_, rfl, ba, rfl, H6⟩
      clear H4 H5
      go_wp2_with fail
      refine (cnew_calls H6).mono ?_
      rintro _ w6 ⟨q2', rfl, H7⟩
      clear H6
      have H8 : Sep w6 (EncI q firstI :: Tbl ba [(c : Int)] :: EncI q2' firstI :: Tbl bt (fewL c) :: [O]) := (((H7.rot3.tail).rot4.tail).rot4).rot3.swap
      clear H7
      have hst := stepI_one c
      go_wp2_with fail
      go_loopg [12] len (fun gk i wr => ∃ (t : Nat) (x : Nat × Nat × Nat), Hid (t ≤ len ∧ gk = len - t ∧ IvI x ∧ x.1 ≤ 2 * t ∧ 256 ^ x.1 * 4294967296 * (65536 - 200 * t) ≤ 256 ^ t * x.2.2 * 65536) ∧ i = .int .i64 (t : Int) ∧ Sep wr (EncI q firstI :: Tbl ba [(c : Int)] :: EncI q2' x :: Tbl bt (fewL c) :: [O]))
      case atStart => exact ⟨0, firstI, Lib.hid ⟨by omega, rfl, firstI_iv, by decide, by decide⟩, rfl, H8⟩
      case round =>
        clear H8
        obtain ⟨t, x, hq, rfl, Hr⟩ := hrel
        obtain ⟨q1, q2, q3, q4, q5⟩ := hq.out
        clear hq
        have HQ := Lib.hid q5
        clear q5
        by_cases ct : t < len
        · obtain ⟨ga, oa, ca, he⟩ := (hrd _ (Sep.drop_left (S := [_, _, _, _]) Hr)).open (by omega)
          simp only [Value.slice.injEq, true_and] at he
          obtain ⟨rfl, rfl⟩ := he
          have hzb := HWZ.out _ (List.getElem_mem (show t < zs.length by omega))
          have hget : (zs.map (Value.int .u8))[t]? = some (.int .u8 (zs[t]'(by omega))) := by rw [List.getElem?_map, List.getElem?_eq_getElem (by omega)]; rfl
          have HC0 : Hid (∀ w', Sep w' [O] → w'.cell? ⟨ga, oa + t, none⟩ = some (.int .u8 (zs[t]'(by omega)))) := Lib.hid fun w' h => (hrd _ h).cell t hget
          clear hget
          generalize zs[t]'(by omega) = y at *
          obtain ⟨s, rfl⟩ := Int.eq_ofNat_of_zero_le hzb.1
          have hs : s < 256 := by omega
          have hti : (t : Int) < (len : Int) := by omega
          have hs2 : s < (fewL c).length := by rw [hfl]; exact hs
          have E1 := encode_ok (s := 0) firstI_iv (by decide) HV1.out (by simp) Hr
          have HI2 := stepI_iv (k := x.1) (L := x.2.1) (R := x.2.2) q3 HV.out hs2
          have HF := Lib.hid (few_step hcb1 hcb2 hs (by omega) q3.1 HQ.out)
          rw [hst] at E1
          go_wp2_with fail
          refine E1.mono ?_
          rintro _ w7 ⟨rfl, H9⟩
          clear E1 Hr
          have k0 := HC0.out _ (Sep.drop_left (S := [_, _, _, _]) H9)
          have E2 := encode_ok q3 (by omega) HV.out hs2 H9.pairs
          go_wp2_with fail
          refine E2.mono ?_
          rintro _ w8 ⟨rfl, H10⟩
          clear E2 H9 k0
          go_wp2_with fail
          go_roundg (len - (t + 1))
          case rel => exact ⟨t + 1, _, Lib.hid ⟨by omega, rfl, HI2.1, by have := HI2.2; omega, HF.out⟩, by go_num, H10.pairs⟩
          case measure => omega
        · obtain rfl : t = len := by omega
          have hke := few_end (by omega) q3.2.1 HQ.out
          clear hst
          go_wp2_with fail
          refine (finish_calls firstI_iv (by decide) Hr).mono ?_
          rintro _ w7 ⟨r, rfl, c1, hc1, H9⟩
          obtain rfl := code_first hc1
          obtain ⟨ra, rc, rfl⟩ := H9.row_form
          clear Hr
          go_wp2_with fail
          refine (finish_calls q3 (by omega) (H9.tail.tail.tail)).mono ?_
          rintro _ w8 ⟨r, rfl, c2, hc2, H10⟩
          have hsh := hc2.short q3.1
          obtain ⟨ra2, rc2, rfl⟩ := H10.row_form
          have hle : (c2.length : Int) ≤ (t : Int) + 1 + (t : Int) / 100 := by omega
          have hle2 : (c2.length : Int) ≤ (t : Int) + 1 + ((t : Int).tdiv 100) := by rw [Int.tdiv_eq_ediv_of_nonneg (by omega)]; exact hle
          clear hsh hc2 hc1 hke H9
          go_wp2_with fail
          go_ret
          subst HB
          exact ⟨rfl, H10.tail.tail.tail.below⟩

end Go.Proofs.Ytglinpclcmmnbaa
