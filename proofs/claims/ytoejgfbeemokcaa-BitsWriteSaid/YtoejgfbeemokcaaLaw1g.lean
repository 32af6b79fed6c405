import Derived.Test.YtoejgfbeemokcaaLaw1f
import Derived.Test.YtoejgfbeemokcaaSepStep
namespace Go.Proofs.Ytoejgfbeemokcaa
open Go.RowKit

/-- The bits of those items that may be written. -/
def okBits (its : List (Int × Int)) : List Bool := its.flatMap fun x => if okItem x then valBits x.1.toNat x.2.toNat else []

theorem okBits_take {its : List (Int × Int)} {k : Nat} (h : k < its.length) : okBits (its.take (k + 1)) = okBits (its.take k) ++ if okItem its[k] then valBits its[k].1.toNat its[k].2.toNat else [] := by
  unfold okBits
  rw [List.take_succ_eq_append_getElem h, List.flatMap_append]
  simp only [List.flatMap_cons, List.flatMap_nil, List.append_nil]

theorem okBits_len (its : List (Int × Int)) : (okBits its).length ≤ 64 * its.length := by
  induction its with
  | nil => simp [okBits]
  | cons x its ih =>
    have e : okBits (x :: its) = (if okItem x then valBits x.1.toNat x.2.toNat else []) ++ okBits its := rfl
    rw [e, List.length_append, List.length_cons]
    have : (if okItem x then valBits x.1.toNat x.2.toNat else []).length ≤ 64 := by
      split
      · rename_i h; rw [valBits_length]; have := h.2.1; omega
      · simp
    omega

/-- Put of what may not be written. -/
theorem put_no {v n : Int} (hv0 : 0 ≤ v) (hv1 : v ≤ 18446744073709551615) (h : ¬ okItem (v, n)) (b : Nat) {w : World} :
    Calls Try.prog 22 #[.pointer (some ⟨b, 0, none⟩), .int .u64 v, .int .i64 n] w fun e w' => e = .returned (.int .i64 2) ∧ w = w' := by
  by_cases c1 : n < 0
  · exact put_neg v n c1 b
  by_cases c2 : 64 < n
  · exact put_wide v n c2 b
  have h2 : ¬ v.toNat < 2 ^ n.toNat := fun h3 => h ⟨by omega, by omega, h3⟩
  have h64 : (2 : Nat) ^ 64 = 18446744073709551616 := by decide +kernel
  have c3 : n.toNat < 64 := by
    apply Classical.byContradiction
    intro c
    have e : n.toNat = 64 := by omega
    rw [e, h64] at h2
    omega
  have hd : ((v.toNat : Int) / 2 ^ n.toNat != 0) = true := by
    have e : (v.toNat : Int) / 2 ^ n.toNat = ((v.toNat / 2 ^ n.toNat : Nat) : Int) := by simp
    rw [bne_iff_ne, e]
    intro h0
    have h1 : v.toNat / 2 ^ n.toNat = 0 := by omega
    have h3 := Nat.two_pow_pos n.toNat
    have h4 := Nat.div_eq_zero_iff (a := v.toNat) (b := 2 ^ n.toNat)
    omega
  have hp := put_great v.toNat n.toNat c3 hd b (w := w)
  rw [Int.toNat_of_nonneg hv0, Int.toNat_of_nonneg (by omega)] at hp
  exact hp

set_option maxRecDepth 100000 in
set_option maxHeartbeats 4000000 in
theorem law_BitsWrite (v : Value) (its : List (Int × Int)) {w : World} (hrow : PairRow .u64 .i64 w v its) :
    Calls Try.prog 3 #[v] w fun e w' => e = .returned (.bool true) ∧ Below w.heap.size w w' := by
  obtain ⟨hbig0, hwf, hrd⟩ := hrow
  clear hbig0
  obtain ⟨a, cap, rfl⟩ := hrd.form
  have H := Sep.start w
  have HRD := Lib.hid (Reads.old (R := []) hrd)
  clear hrd
  generalize hB : HP.old w.heap.size w = O at H HRD
  have HB := Lib.hid hB; clear hB
  have HWF := Lib.hid hwf; clear hwf
  by_cases hf : its.length ≤ 60
  · go_enter Try.func3, Try.ntmps3
    go_wp2_with fail
    refine (awake1 H).mono ?_
    rintro e w1 ⟨rfl, H1⟩
    clear H
    have H3 := (Wr.new H1).swap.tail
    replace H3 := Wr.new H1
    go_wp2_with fail
    generalize w1.heap.size = bw at H3 ⊢
    generalize w1.alloc (.cells #[.slice none 0 0, .int .i64 0] 26) = w3 at H3 ⊢
    clear H1
    go_loopw [4, 5, 6] (fun al i _ wr => ∃ k : Nat, k ≤ its.length ∧ i = .int .i64 (k : Int) ∧ Sep wr (Wr bw (okBits (its.take k)) :: HP.row 3 1 al (okBits (its.take k)).length ((okBits (its.take k)).map bitv) :: [O])) (fun _ i _ _ => its.length - (intOf i).toNat)
    case atStart => exact ⟨0, by omega, rfl, by simpa [okBits] using (H3.row_nil 3 1).swap⟩
    case round =>
      clear H3
      obtain ⟨k, hk, rfl, Hr⟩ := hrel
      by_cases hlt : k < its.length
      · have hrw := HRD.out _ Hr.tail.tail
        obtain ⟨g, o, d, he⟩ := hrw.open (by omega)
        simp only [Value.slice.injEq, true_and] at he
        obtain ⟨rfl, rfl⟩ := he
        have hcells := flat2_get .u64 .i64 its k hlt
        have hc0 := fun w6 (h6 : Sep w6 [O]) => (HRD.out w6 h6).cell (2 * k) hcells.1
        have hc1 := fun w6 (h6 : Sep w6 [O]) => (HRD.out w6 h6).cell (2 * k + 1) hcells.2
        rw [show o + 2 * k = o + k * 2 from by omega] at hc0
        rw [show o + (2 * k + 1) = o + k * 2 + 1 from by omega] at hc1
        have hv := wf_u64 (HWF.out _ (List.getElem_mem hlt)).1
        have hnx := okBits_take hlt
        have hlen := okBits_len (its.take k)
        rw [List.length_take] at hlen
        clear hcells hrw
        generalize its[k] = x at *
        obtain ⟨xv, xn⟩ := x
        simp only at hv hnx hc1 hc0
        have hv0 : 0 ≤ xv := hv.1
        have hv1 : xv ≤ 18446744073709551615 := hv.2
        generalize okBits (its.take k) = L at *
        have HNX := Lib.hid hnx
        have k0 := hc0 _ Hr.tail.tail
        have k1 := hc1 _ Hr.tail.tail
        have HC0 := Lib.hid hc0
        have HC1 := Lib.hid hc1
        have hL : L.length ≤ 3840 := by omega
        have hki : (k : Int) < (its.length : Int) := by omega
        clear hv hnx hc1 hc0 hlen
        obtain ⟨aa, ac, hal⟩ := Hr.tail.row_form
        subst hal
        by_cases hok : okItem (xv, xn)
        · have HOK := Lib.hid hok
          have c3 : 0 ≤ xn := hok.1
          have c4 : xn ≤ 64 := hok.2.1
          have d1 : decide (xn < 0) = false := decide_eq_false (by omega)
          have d2 : decide (64 < xn) = false := decide_eq_false (by omega)
          have HF := Lib.hid (fun w' => by have h := fits_int (w := w') hv0 hv1 c3 c4; rw [decide_eq_true hok.2.2] at h; exact h : ∀ w', Calls Try.prog 20 #[.int .u64 xv, .int .i64 xn] w' fun e w'' => e = .returned (.bool true) ∧ w'' = w')
          clear hok
          go_wp2
          (refine wp_region_quiet_lit (by kernel_rfl) (by kernel_rfl) ?_; (repeat (first | go_big_quiet_skip | (go_big_quiet_want; go_big_quiet_op; (try go_bits); first | go_big_quiet_on | go_big_quiet_call ((go_at_call 20; exact (HF.out _).mono fun _ _ h => ⟨h.1, _, h.2⟩))))); refine wpQuiet_nil ?_; intro _ hw'; obtain ⟨nq, hw''⟩ := hw'; subst hw'')
          have H2 := Hr.drewN nq
          generalize wr.drewN nq = w2 at H2 ⊢
          clear Hr k0 k1
          have k0 := HC0.out _ H2.tail.tail
          have k1 := HC1.out _ H2.tail.tail
          go_wp2
          have h63 : L.length + xn.toNat ≤ maxLen := by unfold maxLen; omega
          have hby : (L.length + xn.toNat) * 8 ≤ 140737488355328 := by omega
          go_region_held3 (fun w' => w'.cell? ⟨g, o + k * 2, none⟩ = some (.int .u64 xv) ∧ w'.cell? ⟨g, o + k * 2 + 1, none⟩ = some (.int .i64 xn)) (first | exact ⟨k0, k1⟩ | exact ⟨HC0.out _ H5.tail.tail.tail, HC1.out _ H5.tail.tail.tail⟩ | exact ⟨HC0.out _ H7.tail.tail.tail, HC1.out _ H7.tail.tail.tail⟩) (first | (go_at_call 21; refine (value_int hv0 hv1 c3 c4 H2.drew).mono ?_; rintro e w5 ⟨r, rfl, H5⟩) | (refine step_append_src rfl (.tmp 49) (.tmp 60) 27 rfl 3 (.int .i64 0) 1 8 Try.underlying27 info_int rfl (by decide) (.slice aa L.length ac) _ _ rfl H5.mid2.swap r _ _ rfl H5.rd (bitv_one _) h63 hby ?_; intro va vc w7 H7))
          have H8 := H7.swap.rot3.tail
          clear H7 H2
          have hL2len : (L ++ valBits xv.toNat xn.toNat).length = L.length + xn.toNat := by rw [List.length_append, valBits_length]
          rw [← List.map_append, ← hL2len] at H8
          rw [if_pos HOK.out] at HNX
          rw [← HNX.out] at H8 hL2len
          obtain ⟨L2, hL2e⟩ : ∃ L2, L2 = okBits (its.take (k + 1)) := ⟨_, rfl⟩
          rw [← hL2e] at H8 hL2len HNX
          have HL2E := Lib.hid hL2e
          have hL2 : L2.length ≤ 33554432 := by omega
          have hL3 : L2.length ≤ 1099511627776 := by omega
          have hL4 : (pk L2).length ≤ 1099511627776 := by rw [pk_length]; omega
          clear hL2e
          generalize L.length + xn.toNat = q at H8 hL2len ⊢
          subst hL2len
          have k0 := HC0.out _ H8.tail.tail
          have k1 := HC1.out _ H8.tail.tail
          clear h63 hby
          go_wp2
          go_region_held3 (fun w' => w'.cell? ⟨g, o + k * 2, none⟩ = some (.int .u64 xv) ∧ w'.cell? ⟨g, o + k * 2 + 1, none⟩ = some (.int .i64 xn)) (first | exact ⟨k0, k1⟩ | exact ⟨HC0.out _ H9.tail.tail, HC1.out _ H9.tail.tail⟩ | exact ⟨HC0.out _ H10.tail.tail.tail, HC1.out _ H10.tail.tail.tail⟩ | exact ⟨HC0.out _ H11.tail.tail.tail.tail, HC1.out _ H11.tail.tail.tail.tail⟩ | exact ⟨HC0.out _ H12.tail.tail.tail.tail, HC1.out _ H12.tail.tail.tail.tail⟩) (first | (go_at_call 22; refine (put_int hv0 c3 c4 HOK.out.2.2 (by omega) H8.drew).mono ?_; rintro e w9 ⟨rfl, H9⟩; rw [← HNX.out] at H9) | (go_at_call 23; refine (len_calls H9).mono ?_; rintro e w10 ⟨rfl, rfl⟩) | (go_at_call 25; refine (bytes_ok hL2 H9).mono ?_; rintro e w10 ⟨r1, rfl, H10⟩) | (go_at_call 26; refine (rbytes_calls (l := L2) hL3 Reads.row.cons.cons H10).mono ?_; rintro e w11 ⟨r2, rfl, H11⟩) | (go_at_call 24; refine (same_calls hL4 H11.tail.rd H11.rd).mono ?_; rintro e w12 ⟨rfl, n12, rfl⟩; have H12 := H11.drewN n12))
          have H13 := H12.tail.tail
          clear H8 H9 H10 H11 H12
          go_wp2
          go_roundw
          case rel => exact ⟨k + 1, by omega, by go_num, by rw [← HL2E.out]; exact H13⟩
          case measure => simp [intOf]; omega
        · have HOK := Lib.hid hok
          rw [if_neg hok, List.append_nil] at HNX
          have hL2 : L.length ≤ 33554432 := by omega
          have hL3 : L.length ≤ 1099511627776 := by omega
          have hL4 : (pk L).length ≤ 1099511627776 := by rw [pk_length]; omega
          have hcase : xn < 0 ∨ (¬ xn < 0 ∧ 64 < xn) ∨ (0 ≤ xn ∧ xn ≤ 64 ∧ ¬ xv.toNat < 2 ^ xn.toNat) := by
            by_cases c1 : xn < 0
            · exact .inl c1
            · by_cases c2 : 64 < xn
              · exact .inr (.inl ⟨c1, c2⟩)
              · exact .inr (.inr ⟨by omega, by omega, fun h => hok ⟨by omega, by omega, h⟩⟩)
          clear hok
          rcases hcase with c1 | ⟨c1, c2⟩ | ⟨c3, c4, c5⟩
          · have d1 : decide (xn < 0) = true := decide_eq_true c1
            go_wp2
            (refine wp_region_quiet_lit (by kernel_rfl) (by kernel_rfl) ?_; (repeat (first | go_big_quiet_skip | (go_big_quiet_want; go_big_quiet_op; (try go_bits); first | go_big_quiet_on | go_big_quiet_call (fail)))); refine wpQuiet_nil ?_; intro _ hw'; obtain ⟨nq, hw''⟩ := hw'; subst hw'')
            have H2 := Hr.drewN nq
            generalize wr.drewN nq = w2 at H2 ⊢
            go_wp2
            have H8 := H2
            have k0 := HC0.out _ H8.tail.tail
            have k1 := HC1.out _ H8.tail.tail
            go_region_held3 (fun w' => w'.cell? ⟨g, o + k * 2, none⟩ = some (.int .u64 xv) ∧ w'.cell? ⟨g, o + k * 2 + 1, none⟩ = some (.int .i64 xn)) (first | exact ⟨k0, k1⟩ | exact ⟨HC0.out _ H9.tail.tail, HC1.out _ H9.tail.tail⟩ | exact ⟨HC0.out _ H10.tail.tail.tail, HC1.out _ H10.tail.tail.tail⟩ | exact ⟨HC0.out _ H11.tail.tail.tail.tail, HC1.out _ H11.tail.tail.tail.tail⟩ | exact ⟨HC0.out _ H12.tail.tail.tail.tail, HC1.out _ H12.tail.tail.tail.tail⟩) (first | (go_at_call 22; refine (put_no hv0 hv1 HOK.out bw).mono ?_; rintro e w9 ⟨rfl, rfl⟩; have H9 := H8.drew) | (go_at_call 23; refine (len_calls H9).mono ?_; rintro e w10 ⟨rfl, rfl⟩) | (go_at_call 25; refine (bytes_ok hL2 H9).mono ?_; rintro e w10 ⟨r1, rfl, H10⟩) | (go_at_call 26; refine (rbytes_calls (l := L) hL3 Reads.row.cons.cons H10).mono ?_; rintro e w11 ⟨r2, rfl, H11⟩) | (go_at_call 24; refine (same_calls hL4 H11.tail.rd H11.rd).mono ?_; rintro e w12 ⟨rfl, n12, rfl⟩; have H12 := H11.drewN n12))
            have H13 := H12.tail.tail
            clear H8 H9 H10 H11 H12
            go_wp2
            go_roundw
            case rel => exact ⟨k + 1, by omega, by go_num, by rw [HNX.out]; exact H13⟩
            case measure => simp [intOf]; omega
          · have d1 : decide (xn < 0) = false := decide_eq_false c1
            have d2 : decide (64 < xn) = true := decide_eq_true c2
            go_wp2
            (refine wp_region_quiet_lit (by kernel_rfl) (by kernel_rfl) ?_; (repeat (first | go_big_quiet_skip | (go_big_quiet_want; go_big_quiet_op; (try go_bits); first | go_big_quiet_on | go_big_quiet_call (fail)))); refine wpQuiet_nil ?_; intro _ hw'; obtain ⟨nq, hw''⟩ := hw'; subst hw'')
            have H2 := Hr.drewN nq
            generalize wr.drewN nq = w2 at H2 ⊢
            go_wp2
            have H8 := H2
            have k0 := HC0.out _ H8.tail.tail
            have k1 := HC1.out _ H8.tail.tail
            go_region_held3 (fun w' => w'.cell? ⟨g, o + k * 2, none⟩ = some (.int .u64 xv) ∧ w'.cell? ⟨g, o + k * 2 + 1, none⟩ = some (.int .i64 xn)) (first | exact ⟨k0, k1⟩ | exact ⟨HC0.out _ H9.tail.tail, HC1.out _ H9.tail.tail⟩ | exact ⟨HC0.out _ H10.tail.tail.tail, HC1.out _ H10.tail.tail.tail⟩ | exact ⟨HC0.out _ H11.tail.tail.tail.tail, HC1.out _ H11.tail.tail.tail.tail⟩ | exact ⟨HC0.out _ H12.tail.tail.tail.tail, HC1.out _ H12.tail.tail.tail.tail⟩) (first | (go_at_call 22; refine (put_no hv0 hv1 HOK.out bw).mono ?_; rintro e w9 ⟨rfl, rfl⟩; have H9 := H8.drew) | (go_at_call 23; refine (len_calls H9).mono ?_; rintro e w10 ⟨rfl, rfl⟩) | (go_at_call 25; refine (bytes_ok hL2 H9).mono ?_; rintro e w10 ⟨r1, rfl, H10⟩) | (go_at_call 26; refine (rbytes_calls (l := L) hL3 Reads.row.cons.cons H10).mono ?_; rintro e w11 ⟨r2, rfl, H11⟩) | (go_at_call 24; refine (same_calls hL4 H11.tail.rd H11.rd).mono ?_; rintro e w12 ⟨rfl, n12, rfl⟩; have H12 := H11.drewN n12))
            have H13 := H12.tail.tail
            clear H8 H9 H10 H11 H12
            go_wp2
            go_roundw
            case rel => exact ⟨k + 1, by omega, by go_num, by rw [HNX.out]; exact H13⟩
            case measure => simp [intOf]; omega
          · have d1 : decide (xn < 0) = false := decide_eq_false (by omega)
            have d2 : decide (64 < xn) = false := decide_eq_false (by omega)
            have HF := Lib.hid (fun w' => by have h := fits_int (w := w') hv0 hv1 c3 c4; rw [decide_eq_false c5] at h; exact h : ∀ w', Calls Try.prog 20 #[.int .u64 xv, .int .i64 xn] w' fun e w'' => e = .returned (.bool false) ∧ w'' = w')
            clear c5
            go_wp2
            (refine wp_region_quiet_lit (by kernel_rfl) (by kernel_rfl) ?_; (repeat (first | go_big_quiet_skip | (go_big_quiet_want; go_big_quiet_op; (try go_bits); first | go_big_quiet_on | go_big_quiet_call ((go_at_call 20; exact (HF.out _).mono fun _ _ h => ⟨h.1, _, h.2⟩))))); refine wpQuiet_nil ?_; intro _ hw'; obtain ⟨nq, hw''⟩ := hw'; subst hw'')
            have H2 := Hr.drewN nq
            generalize wr.drewN nq = w2 at H2 ⊢
            go_wp2
            have H8 := H2
            have k0 := HC0.out _ H8.tail.tail
            have k1 := HC1.out _ H8.tail.tail
            go_region_held3 (fun w' => w'.cell? ⟨g, o + k * 2, none⟩ = some (.int .u64 xv) ∧ w'.cell? ⟨g, o + k * 2 + 1, none⟩ = some (.int .i64 xn)) (first | exact ⟨k0, k1⟩ | exact ⟨HC0.out _ H9.tail.tail, HC1.out _ H9.tail.tail⟩ | exact ⟨HC0.out _ H10.tail.tail.tail, HC1.out _ H10.tail.tail.tail⟩ | exact ⟨HC0.out _ H11.tail.tail.tail.tail, HC1.out _ H11.tail.tail.tail.tail⟩ | exact ⟨HC0.out _ H12.tail.tail.tail.tail, HC1.out _ H12.tail.tail.tail.tail⟩) (first | (go_at_call 22; refine (put_no hv0 hv1 HOK.out bw).mono ?_; rintro e w9 ⟨rfl, rfl⟩; have H9 := H8.drew) | (go_at_call 23; refine (len_calls H9).mono ?_; rintro e w10 ⟨rfl, rfl⟩) | (go_at_call 25; refine (bytes_ok hL2 H9).mono ?_; rintro e w10 ⟨r1, rfl, H10⟩) | (go_at_call 26; refine (rbytes_calls (l := L) hL3 Reads.row.cons.cons H10).mono ?_; rintro e w11 ⟨r2, rfl, H11⟩) | (go_at_call 24; refine (same_calls hL4 H11.tail.rd H11.rd).mono ?_; rintro e w12 ⟨rfl, n12, rfl⟩; have H12 := H11.drewN n12))
            have H13 := H12.tail.tail
            clear H8 H9 H10 H11 H12
            go_wp2
            go_roundw
            case rel => exact ⟨k + 1, by omega, by go_num, by rw [HNX.out]; exact H13⟩
            case measure => simp [intOf]; omega
      · go_wp2_with fail
        go_ret
        subst HB
        exact ⟨rfl, Hr.tail.tail.below⟩
  · go_enter Try.func3, Try.ntmps3
    go_wp2_with fail
    refine (awake1 H).mono ?_
    rintro e w1 ⟨rfl, H1⟩
    clear H
    go_wp2_with fail
    refine (awake1 H1).mono ?_
    rintro e w2 ⟨rfl, H2⟩
    go_wp2_with fail
    go_ret
    subst HB
    exact ⟨rfl, H2.below⟩

end Go.Proofs.Ytoejgfbeemokcaa
