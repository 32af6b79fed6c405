import Derived.Test.YtoejgfbeemokcaaLaw1h
namespace Go.Proofs.Ytoejgfbeemokcaa
open Go.RowKit

theorem valBits_take_down (v n p : Nat) (h : p < n) : (valBits v n).take (n - p) = (valBits v n).take (n - (p + 1)) ++ [v.testBit p] := by
  have e : n - p = n - (p + 1) + 1 := by omega
  rw [e, valBits_take v n _ (by omega)]
  congr 2; congr 1; omega

/-- The bit that is looked at, as the walk writes it. -/
theorem bit_test (v p : Nat) (hv : v < 2 ^ 64) : (bits BinOp.and IntKind.u64 ((v : Int) / 2 ^ p) 1 == 1) = v.testBit p := by
  have h := put_bit v (p + 1) 0 hv
  have e : p + 1 - 1 - 0 = p := by omega
  rw [e] at h
  rw [h]
  cases v.testBit p <;> rfl

theorem getD_piece {L M : List Bool} {t n i : Nat} (h : (L.drop t).take n = M) (hi : i < n) : L.getD (t + i) false = M.getD i false := by
  subst h
  simp [List.getD, hi]

theorem valBits_getD (v n p : Nat) (h : p < n) : (valBits v n).getD (n - (p + 1)) false = v.testBit p := by
  have hl : n - (p + 1) < n := by omega
  simp only [List.getD, valBits, List.getElem?_map, List.getElem?_range hl, Option.map_some, Option.getD_some]
  congr 1; omega

set_option maxRecDepth 100000 in
set_option maxHeartbeats 4000000 in
theorem law_BitsCut (va : Value) (as_ : List (Int × Int)) {w : World} (hrowa : PairRow .u64 .i64 w va as_) :
    Calls Try.prog 11 #[va] w fun e w' => e = .returned (.bool true) ∧ Below w.heap.size w w' := by
  obtain ⟨hbiga, hwfa, hrda⟩ := hrowa
  obtain ⟨aa, cap, rfl⟩ := hrda.form
  have HBIGA := Lib.hid hbiga
  have H := Sep.start w
  have HRDA := Lib.hid (Reads.old (R := []) hrda)
  clear hrda hbiga
  generalize hB : HP.old w.heap.size w = O at H HRDA
  have HB := Lib.hid hB; clear hB
  have HWFA := Lib.hid hwfa; clear hwfa
  have hfita := fun (w1 : World) (H1 : Sep w1 [O]) => lfits_calls HBIGA.out HWFA.out (HRDA.out w1 H1)
  by_cases hoka : (∀ x ∈ as_, okItem x) ∧ as_.length ≤ 60
  · rw [decide_eq_true hoka] at hfita
    have HFITA := Lib.hid hfita
    have HOKA := Lib.hid hoka.1
    have hla := hoka.2
    clear hfita hoka
    have hAl := itemBits_len HOKA.out
    go_enter Try.func11, Try.ntmps11
    go_wp2_with fail
    refine (awake1 H).mono ?_
    rintro e w1 ⟨rfl, H1⟩
    clear H
    go_wp2_with fail
    refine (HFITA.out w1 H1).mono ?_
    rintro e w3 ⟨rfl, n2, rfl⟩
    have H3 := H1.drewN n2
    generalize w1.drewN n2 = w3 at H3 ⊢
    clear H1
    have H4 := Wr.new (Wr.new H3)
    go_wp2_with fail
    have e1 : (w3.alloc (.cells #[.slice none 0 0, .int .i64 0] 26)).heap.size = w3.heap.size + 1 := by simp
    rw [e1] at H4
    clear e1
    generalize w3.heap.size = q at H4 ⊢
    generalize (w3.alloc (.cells #[.slice none 0 0, .int .i64 0] 26)).alloc (.cells #[.slice none 0 0, .int .i64 0] 26) = w4 at H4 ⊢
    refine (lput_calls (its := as_) hla (by decide) HOKA.out HWFA.out HRDA.out.cons H4.swap).mono ?_
    rintro e w5 ⟨rfl, H5⟩
    clear H4 H3
    rw [List.nil_append] at H5
    obtain ⟨A, hA⟩ : ∃ A, A = itemBits as_ := ⟨_, rfl⟩
    rw [← hA] at H5 hAl
    have HA := Lib.hid hA
    clear hA
    have hA32 : A.length ≤ 33554432 := by omega
    replace H5 := H5.swap
    go_wp2_with fail
    go_loopw [5, 6] (fun i _ wr => ∃ k : Nat, k ≤ as_.length ∧ i = .int .i64 (k : Int) ∧ Sep wr (Wr (q + 1) (itemBits (as_.take k)) :: Wr q A :: [O])) (fun i _ _ => as_.length - (intOf i).toNat)
    case atStart => exact ⟨0, by omega, rfl, H5⟩
    case round =>
      clear H5
      obtain ⟨k, hk, rfl, Hr⟩ := hrel
      obtain ⟨wo, rfl⟩ : ∃ wo : World, wo = wr := ⟨_, rfl⟩
      by_cases hlt : k < as_.length
      · have hrw := HRDA.out _ Hr.tail.tail
        obtain ⟨g, o, d, he⟩ := hrw.open (by omega)
        simp only [Value.slice.injEq, true_and] at he
        obtain ⟨rfl, rfl⟩ := he
        have hcells := flat2_get .u64 .i64 as_ k hlt
        have hc0 := fun w6 (h6 : Sep w6 [O]) => (HRDA.out w6 h6).cell (2 * k) hcells.1
        have k1 := hrw.cell (2 * k + 1) hcells.2
        rw [show o + 2 * k = o + k * 2 from by omega] at hc0
        rw [show o + (2 * k + 1) = o + k * 2 + 1 from by omega] at k1
        have hv := wf_u64 (HWFA.out _ (List.getElem_mem hlt)).1
        have hx := HOKA.out _ (List.getElem_mem hlt)
        have hnx := itemBits_take hlt
        have hbl := itemBits_len (its := as_.take k) fun x hx => HOKA.out x (List.mem_of_mem_take hx)
        rw [List.length_take] at hbl
        clear hcells hrw
        generalize as_[k] = x at *
        obtain ⟨xv, xn⟩ := x
        simp only at k1 hv hnx hc0
        obtain ⟨V, rfl⟩ : ∃ V : Nat, xv = V := ⟨xv.toNat, by have := hv.1; omega⟩
        obtain ⟨N, rfl⟩ : ∃ N : Nat, xn = N := ⟨xn.toNat, by have := hx.1; simp only at this; omega⟩
        have hN : N ≤ 64 := by have := hx.2.1; simp only at this; omega
        have hV : V < 2 ^ 64 := by
          have h64 : (2 : Nat) ^ 64 = 18446744073709551616 := by decide +kernel
          have := hv.2; omega
        have e1 : (V : Int).toNat = V := rfl
        have e2 : (N : Int).toNat = N := rfl
        rw [e1, e2] at hnx
        have HNX := Lib.hid hnx
        have HC0 := Lib.hid hc0
        have HV := Lib.hid hV
        generalize itemBits (as_.take k) = M at *
        have hMl : M.length ≤ 3840 := by omega
        clear hv hx hnx hc0 e1 e2 hV hbl
        go_wp2_with fail
        go_loopw [6] (fun kk wr => ∃ m : Nat, m ≤ N ∧ kk = .int .i64 ((m : Int) - 1) ∧ Sep wr (Wr (q + 1) (M ++ (valBits V N).take (N - m)) :: Wr q A :: [O])) (fun kk _ => (intOf kk + 1).toNat)
        case atStart => exact ⟨N, by omega, rfl, by simpa using Hr⟩
        case round =>
          clear Hr k1
          obtain ⟨m, hm, rfl, Hq⟩ := hrel
          by_cases hm0 : m = 0
          · subst hm0
            go_wp2_with fail
            rw [Nat.sub_zero, List.take_of_length_le (by rw [valBits_length]; omega), ← HNX.out] at Hq
            go_roundw
            case rel => exact ⟨k + 1, by omega, by go_num, Hq⟩
            case measure => simp [intOf]; omega
          · obtain ⟨p, rfl⟩ : ∃ p, m = p + 1 := ⟨m - 1, by omega⟩
            have hp : p < N := by omega
            have k0 := HC0.out _ Hq.tail.tail
            have htd := valBits_take_down V N p hp
            have hbt := bit_test V p HV.out
            have hml : (M ++ (valBits V N).take (N - (p + 1))).length + 1 ≤ 33554432 := by rw [List.length_append, List.length_take, valBits_length]; omega
            generalize V.testBit p = y at hbt htd
            have HTD := Lib.hid htd
            clear htd hm0
            have hpp : ((p + 1 : Nat) : Int) - 1 = (p : Int) := by omega
            rw [hpp]
            clear hpp
            go_wp2_with fail
            refine (wbit_ok hml Hq).mono ?_
            rintro e w7 ⟨rfl, H7⟩
            rw [List.append_assoc, ← HTD.out] at H7
            go_wp2_with fail
            go_roundw
            case rel => exact ⟨p, by omega, by go_num, H7⟩
            case measure => simp [intOf]
      · have e : k = as_.length := by omega
        subst e
        rw [List.take_length, ← HA.out] at Hr
        have hpkl : (pk A).length ≤ 1099511627776 := by rw [pk_length]; omega
        go_wp2_with fail
        refine (bytes_ok hA32 Hr.swap).mono ?_
        rintro e w6 ⟨r1, rfl, H6⟩
        go_wp2_with fail
        refine (bytes_ok hA32 H6.rot3).mono ?_
        rintro e w7 ⟨r2, rfl, H7⟩
        go_wp2_with fail
        refine (same_calls hpkl H7.tail.tail.rd H7.rd).mono ?_
        rintro e w8 ⟨rfl, n8, rfl⟩
        have H8 := (H7.drewN n8).tail.swap.tail.swap
        generalize w7.drewN n8 = w8 at H8 ⊢
        clear H6 H7 Hr
        rw [decide_eq_true (rfl : pk A = pk A)]
        go_wp2_with fail
        refine (len_calls H8).mono ?_
        rintro e w9 ⟨rfl, rfl⟩
        go_wp2_with fail
        refine (len_calls H8.swap).mono ?_
        rintro e w9 ⟨rfl, rfl⟩
        go_wp2_with fail
        refine (bytes_ok hA32 H8).mono ?_
        rintro e w9 ⟨r3, rfl, H9⟩
        have hrd9 := H9.rd
        go_wp2_with fail
        refine (len_calls H9.tail).mono ?_
        rintro e w10 ⟨rfl, rfl⟩
        go_wp2_with fail
        refine (nr_ok hA32 hrd9 H9).mono ?_
        rintro e w10 ⟨r2, rfl, br, rfl, H10⟩
        replace H10 : Sep w10 (Rdr br A 0 :: [O]) := H10.swap.tail.swap.tail.swap.tail
        clear H8 H9 hrd9
        go_wp2_with fail
        go_loopw [9, 10, 11, 12] (fun i _ _ _ wr => ∃ k : Nat, k ≤ as_.length ∧ i = .int .i64 (k : Int) ∧ Sep wr (Rdr br A (itemBits (as_.take k)).length :: [O])) (fun i _ _ _ _ => as_.length - (intOf i).toNat)
        case atStart => exact ⟨0, by omega, rfl, H10⟩
        case round =>
          clear H10
          obtain ⟨k, hk, rfl, Hr⟩ := hrel
          obtain ⟨wo, rfl⟩ : ∃ wo : World, wo = wr := ⟨_, rfl⟩
          by_cases hlt : k < as_.length
          · have hrw := HRDA.out _ Hr.tail
            obtain ⟨g, o, d, he⟩ := hrw.open (by omega)
            simp only [Value.slice.injEq, true_and] at he
            obtain ⟨rfl, rfl⟩ := he
            have hcells := flat2_get .u64 .i64 as_ k hlt
            have hc0 := fun w6 (h6 : Sep w6 [O]) => (HRDA.out w6 h6).cell (2 * k) hcells.1
            have k1 := hrw.cell (2 * k + 1) hcells.2
            rw [show o + 2 * k = o + k * 2 from by omega] at hc0
            rw [show o + (2 * k + 1) = o + k * 2 + 1 from by omega] at k1
            have hv := wf_u64 (HWFA.out _ (List.getElem_mem hlt)).1
            have hx := HOKA.out _ (List.getElem_mem hlt)
            have hat := itemBits_at hlt hx
            have hle := itemBits_le hlt
            have hnx : (itemBits (as_.take (k + 1))).length = (itemBits (as_.take k)).length + as_[k].2.toNat := by rw [itemBits_take hlt, List.length_append, valBits_length]
            rw [← HA.out] at hat hle
            clear hcells hrw
            generalize as_[k] = x at *
            obtain ⟨xv, xn⟩ := x
            simp only at k1 hv hnx hc0 hat hle
            obtain ⟨V, rfl⟩ : ∃ V : Nat, xv = V := ⟨xv.toNat, by have := hv.1; omega⟩
            obtain ⟨N, rfl⟩ : ∃ N : Nat, xn = N := ⟨xn.toNat, by have := hx.1; simp only at this; omega⟩
            have hN : N ≤ 64 := by have := hx.2.1; simp only at this; omega
            have hV : V < 2 ^ 64 := by
              have h64 : (2 : Nat) ^ 64 = 18446744073709551616 := by decide +kernel
              have := hv.2; omega
            have e1 : (V : Int).toNat = V := rfl
            have e2 : (N : Int).toNat = N := rfl
            rw [e2] at hnx hle
            rw [e1, e2] at hat
            have HNX := Lib.hid hnx
            have HC0 := Lib.hid hc0
            have HV := Lib.hid hV
            have HAT := Lib.hid hat
            generalize (itemBits (as_.take k)).length = t at *
            clear hv hx hnx hc0 e1 e2 hV hat
            go_wp2_with fail
            go_loopw [10, 11, 12] (fun kk _ _ wr => ∃ m : Nat, m ≤ N ∧ kk = .int .i64 ((m : Int) - 1) ∧ Sep wr (Rdr br A (t + (N - m)) :: [O])) (fun kk _ _ _ => (intOf kk + 1).toNat)
            case atStart => exact ⟨N, by omega, rfl, by simpa using Hr⟩
            case round =>
              clear Hr k1
              obtain ⟨m, hm, rfl, Hq⟩ := hrel
              by_cases hm0 : m = 0
              · subst hm0
                go_wp2_with fail
                rw [Nat.sub_zero, ← HNX.out] at Hq
                go_roundw
                case rel => exact ⟨k + 1, by omega, by go_num, Hq⟩
                case measure => simp [intOf]; omega
              · obtain ⟨p, rfl⟩ : ∃ p, m = p + 1 := ⟨m - 1, by omega⟩
                have hp : p < N := by omega
                have k0 := fun w6 (h6 : Sep w6 [O]) => HC0.out w6 h6
                have hbt := bit_test V p HV.out
                have hgd : A.getD (t + (N - (p + 1))) false = V.testBit p := by rw [getD_piece HAT.out (by omega), valBits_getD V N p hp]
                have htl : t + (N - (p + 1)) < A.length := by omega
                have hnx2 : t + (N - (p + 1)) + 1 = t + (N - p) := by omega
                generalize V.testBit p = y at hbt hgd
                have HGD := Lib.hid hgd
                have HN2 := Lib.hid hnx2
                have K0 := Lib.hid k0
                clear hgd hm0 hnx2 k0
                have hpp : ((p + 1 : Nat) : Int) - 1 = (p : Int) := by omega
                rw [hpp]
                clear hpp
                go_wp2_with fail
                refine (rbit_ok htl hA32 Hq).mono ?_
                rintro e w7 ⟨rfl, H7⟩
                rw [HGD.out]
                rw [HN2.out] at H7
                have k0 := K0.out _ H7.tail
                go_wp2_with fail
                go_roundw
                case rel => exact ⟨p, by omega, rfl, H7⟩
                case measure => simp [intOf]
          · have e : k = as_.length := by omega
            subst e
            rw [List.take_length, ← HA.out] at Hr
            go_wp2_with fail
            refine (rbit_end rfl hA32 Hr).mono ?_
            rintro e w7 ⟨rfl, n7, rfl⟩
            have H7 := Hr.drewN n7
            generalize wo.drewN n7 = w7 at H7 ⊢
            go_wp2_with fail
            go_ret
            subst HB
            exact ⟨rfl, H7.tail.below⟩
  · rw [decide_eq_false hoka] at hfita
    have HFITA := Lib.hid hfita
    clear hfita hoka
    go_enter Try.func11, Try.ntmps11
    go_wp2_with fail
    refine (awake1 H).mono ?_
    rintro e w1 ⟨rfl, H1⟩
    clear H
    go_wp2_with fail
    refine (HFITA.out w1 H1).mono ?_
    rintro e w2 ⟨rfl, n2, rfl⟩
    have H2 := H1.drewN n2
    generalize w1.drewN n2 = w2 at H2 ⊢
    clear H1
    go_wp2_with fail
    refine (awake1 H2).mono ?_
    rintro e w4 ⟨rfl, H4⟩
    go_wp2_with fail
    go_ret
    subst HB
    exact ⟨rfl, H4.below⟩

end Go.Proofs.Ytoejgfbeemokcaa
