import Derived.Test.YtoejgfbeemokcaaLaw1e
namespace Go.Proofs.Ytoejgfbeemokcaa
open Go.RowKit

theorem valBits_succ (v n : Nat) : valBits v (n + 1) = valBits (v / 2) n ++ [v.testBit 0] := by
  unfold valBits
  rw [List.range_succ, List.map_append]
  congr 1
  · refine List.map_congr_left fun i hi => ?_
    have hi' := List.mem_range.1 hi
    rw [Nat.testBit_div_two]
    congr 1; omega
  · simp

theorem ofBits_valBits (v n : Nat) (h : v < 2 ^ n) : ofBits (valBits v n) = v := by
  induction n generalizing v with
  | zero => simp [valBits, ofBits]; omega
  | succ n ih =>
    rw [valBits_succ, ofBits_snoc, ih (v / 2) (by rw [Nat.pow_succ] at h; omega), Nat.testBit_zero]
    rcases Nat.mod_two_eq_zero_or_one v with h0 | h0 <;> simp [h0] <;> omega

/-- Where item k stands among the bits. -/
theorem itemBits_at {its : List (Int × Int)} {k : Nat} (h : k < its.length) (_hk : okItem its[k]) :
    ((itemBits its).drop (itemBits (its.take k)).length).take its[k].2.toNat = valBits its[k].1.toNat its[k].2.toNat := by
  have e : itemBits its = itemBits (its.take k) ++ (valBits its[k].1.toNat its[k].2.toNat ++ itemBits (its.drop (k + 1))) := by
    have h1 : its = its.take k ++ (its[k] :: its.drop (k + 1)) := by rw [List.getElem_cons_drop h, List.take_append_drop]
    conv => lhs; rw [h1]
    unfold itemBits
    rw [List.flatMap_append, List.flatMap_cons]
  rw [e, List.drop_left, List.take_left' (by rw [valBits_length])]

theorem itemBits_le {its : List (Int × Int)} {k : Nat} (h : k < its.length) : (itemBits (its.take k)).length + its[k].2.toNat ≤ (itemBits its).length := by
  have e := itemBits_take h
  have h2 : (itemBits (its.take (k + 1))).length ≤ (itemBits its).length := by
    conv => rhs; rw [← List.take_append_drop (k + 1) its]
    unfold itemBits
    rw [List.flatMap_append, List.length_append]; omega
  rw [e, List.length_append, valBits_length] at h2
  exact h2

set_option maxRecDepth 100000 in
set_option maxHeartbeats 2000000 in
theorem law_BitsBack (v : Value) (its : List (Int × Int)) {w : World} (hrow : PairRow .u64 .i64 w v its) :
    Calls Try.prog 5 #[v] w fun e w' => e = .returned (.bool true) ∧ Below w.heap.size w w' := by
  obtain ⟨hbig0, hwf, hrd⟩ := hrow
  have HBIG := Lib.hid hbig0
  clear hbig0
  obtain ⟨a, cap, rfl⟩ := hrd.form
  have H := Sep.start w
  have HRD := Lib.hid (Reads.old (R := []) hrd)
  clear hrd
  generalize hB : HP.old w.heap.size w = O at H HRD
  have HB := Lib.hid hB; clear hB
  have HWF := Lib.hid hwf; clear hwf
  by_cases hok : (∀ x ∈ its, okItem x) ∧ its.length ≤ 60
  · have hfit := fun (w1 : World) (H1 : Sep w1 [O]) => lfits_calls HBIG.out HWF.out (HRD.out w1 H1)
    have hd := decide_eq_true hok
    rw [hd] at hfit
    have HFIT := Lib.hid hfit
    have HOK := Lib.hid hok.1
    have hl60 := hok.2
    clear hfit hd hok
    go_enter Try.func5, Try.ntmps5
    go_wp2_with fail
    refine (awake1 H).mono ?_
    rintro e w1 ⟨rfl, H1⟩
    clear H
    go_wp2_with fail
    refine (HFIT.out w1 H1).mono ?_
    rintro e w2 ⟨rfl, n2, rfl⟩
    have H2 := H1.drewN n2
    generalize w1.drewN n2 = w2 at H2 ⊢
    clear H1
    have H3 := Wr.new H2
    go_wp2_with fail
    generalize w2.heap.size = bw at H3 ⊢
    generalize w2.alloc (.cells #[.slice none 0 0, .int .i64 0] 26) = w3 at H3 ⊢
    clear H2
    refine (lput_calls (its := its) hl60 (by decide) HOK.out HWF.out HRD.out H3).mono ?_
    rintro e w4 ⟨rfl, H4⟩
    clear H3
    rw [List.nil_append] at H4
    have hlen := itemBits_len HOK.out
    obtain ⟨L, hL⟩ : ∃ L, L = itemBits its := ⟨_, rfl⟩
    rw [← hL] at H4 hlen
    have HL := Lib.hid hL; clear hL
    have hL32 : L.length ≤ 33554432 := by omega
    go_wp2_with fail
    refine (bytes_ok hL32 H4).mono ?_
    rintro e w5 ⟨r, rfl, H5⟩
    have hrd5 := H5.rd
    go_wp2_with fail
    refine (len_calls H5.tail).mono ?_
    rintro e w6 ⟨rfl, rfl⟩
    go_wp2_with fail
    refine (nr_ok hL32 hrd5 H5).mono ?_
    rintro e w6 ⟨r2, rfl, br, rfl, H6⟩
    clear H4 H5 hrd5
    go_wp2_with fail
    go_loopw [6, 7, 8] (fun i _ _ wr => ∃ k : Nat, k ≤ its.length ∧ i = .int .i64 (k : Int) ∧ Sep wr (Rdr br L (itemBits (its.take k)).length :: HP.row 5 1 r (pk L).length ((pk L).map u8v) :: Wr bw L :: [O])) (fun i _ _ _ => its.length - (intOf i).toNat)
    case atStart => exact ⟨0, by omega, rfl, H6⟩
    case round =>
      clear H6
      obtain ⟨k, hk, rfl, Hr⟩ := hrel
      by_cases hlt : k < its.length
      · have hrw := HRD.out _ Hr.tail.tail.tail
        obtain ⟨g, o, d, he⟩ := hrw.open (by omega)
        simp only [Value.slice.injEq, true_and] at he
        obtain ⟨rfl, rfl⟩ := he
        have hcells := flat2_get .u64 .i64 its k hlt
        have hc1 := fun w6 (h6 : Sep w6 [O]) => (HRD.out w6 h6).cell (2 * k) hcells.1
        have k1 := hrw.cell (2 * k + 1) hcells.2
        rw [show o + 2 * k = o + k * 2 from by omega] at hc1
        rw [show o + (2 * k + 1) = o + k * 2 + 1 from by omega] at k1
        have hv := wf_u64 (HWF.out _ (List.getElem_mem hlt)).1
        have hx := HOK.out _ (List.getElem_mem hlt)
        have hat := itemBits_at hlt hx
        have hle := itemBits_le hlt
        have hnx : (itemBits (its.take (k + 1))).length = (itemBits (its.take k)).length + its[k].2.toNat := by rw [itemBits_take hlt, List.length_append, valBits_length]
        rw [← HL.out] at hat hle
        clear hcells hrw
        generalize its[k] = x at *
        obtain ⟨xv, xn⟩ := x
        simp only at k1 hv hat hle hnx hc1
        have hv0 : 0 ≤ xv := hv.1
        have c3 : 0 ≤ xn := hx.1
        have c4 : xn ≤ 64 := hx.2.1
        have hval : (ofBits ((L.drop (itemBits (its.take k)).length).take xn.toNat) : Int) = xv := by
          rw [hat, ofBits_valBits _ _ hx.2.2, Int.toNat_of_nonneg hv0]
        generalize (itemBits (its.take k)).length = t at *
        have HNX := Lib.hid hnx
        have HC1 := Lib.hid hc1
        have HLE := Lib.hid hle
        have HVAL := Lib.hid hval
        clear hv hx hat hnx hc1 hle hval
        go_wp2_with fail
        refine (get_int c3 c4 HLE.out hL32 Hr).mono ?_
        rintro e w7 ⟨rfl, H7⟩
        rw [HVAL.out]
        have k0 := HC1.out _ H7.tail.tail.tail
        clear Hr k1
        go_wp2_with fail
        go_roundw
        case rel => exact ⟨k + 1, by omega, by go_num, by rw [HNX.out]; exact H7⟩
        case measure => simp [intOf]; omega
      · have e : k = its.length := by omega
        subst e
        rw [List.take_length, ← HL.out] at Hr
        go_wp2_with fail
        refine (left_ok (Nat.le_refl _) hL32 Hr).mono ?_
        rintro e w7 ⟨rfl, n7, rfl⟩
        have H7 := Hr.drewN n7
        generalize wr.drewN n7 = w7 at H7 ⊢
        clear Hr
        go_wp2_with fail
        refine (at_ok H7).mono ?_
        rintro e w8 ⟨rfl, rfl⟩
        go_wp2_with fail
        refine (len_calls H7.tail.tail).mono ?_
        rintro e w8 ⟨rfl, rfl⟩
        go_wp2_with fail
        go_ret
        subst HB
        exact ⟨rfl, H7.tail.tail.tail.below⟩
  · have hfit := fun (w1 : World) (H1 : Sep w1 [O]) => lfits_calls HBIG.out HWF.out (HRD.out w1 H1)
    have hd := decide_eq_false hok
    rw [hd] at hfit
    have HFIT := Lib.hid hfit
    clear hfit hd hok
    go_enter Try.func5, Try.ntmps5
    go_wp2_with fail
    refine (awake1 H).mono ?_
    rintro e w1 ⟨rfl, H1⟩
    clear H
    go_wp2_with fail
    refine (HFIT.out w1 H1).mono ?_
    rintro e w2 ⟨rfl, n2, rfl⟩
    have H2 := H1.drewN n2
    generalize w1.drewN n2 = w2 at H2 ⊢
    go_wp2_with fail
    refine (awake1 H2).mono ?_
    rintro e w3 ⟨rfl, H3⟩
    go_wp2_with fail
    go_ret
    subst HB
    exact ⟨rfl, H3.below⟩

end Go.Proofs.Ytoejgfbeemokcaa
