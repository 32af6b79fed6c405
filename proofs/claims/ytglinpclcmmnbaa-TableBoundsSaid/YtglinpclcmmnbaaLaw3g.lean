import Derived.Test.YtglinpclcmmnbaaLaw3c
namespace Go.Proofs.Ytglinpclcmmnbaa
open Go.RowKit

theorem bump_bound {cs : List Int} {s : Nat} (hv : Vt cs) (hs : s < cs.length) : (cs.getD s 0) * (isum (bumpOf cs s) - (cs.length : Int)) ≤ (bumpOf cs s).getD s 0 * (isum cs + 32) := by
  have hx := hv.2.2.1 _ (List.getElem_mem hs)
  have hn := isum_nonneg hv.2.2.1
  have hsum := bump_sum hs
  have hlen : (cs.set s (cs.getD s 0 + 32)).length = cs.length := List.length_set
  have hpos : ∀ y ∈ cs.set s (cs.getD s 0 + 32), 1 ≤ y := set_pos hv.2.2.1 (by rw [getD_get hs]; omega)
  have hg : (cs.set s (cs.getD s 0 + 32)).getD s 0 = cs.getD s 0 + 32 := by
    rw [List.getD, List.getElem?_set_self hs]; rfl
  rw [← getD_get hs] at hx
  unfold bumpOf
  split
  · have h1 := halveOf_sum _ hpos
    have hg2 : (halveOf (cs.set s (cs.getD s 0 + 32))).getD s 0 = (cs.getD s 0 + 32 + 1) / 2 := by
      unfold halveOf
      rw [List.getD, List.getElem?_map, List.getElem?_set_self hs]; rfl
    rw [hg2]
    generalize isum (halveOf (cs.set s (cs.getD s 0 + 32))) = T at *
    rw [hsum, hlen] at h1
    clear hg hg2 hpos hsum
    generalize cs.getD s 0 = h at *
    generalize isum cs = A at *
    generalize (cs.length : Int) = n at *
    have e1 : h * (2 * (T - n)) ≤ h * (A + 32) := Int.mul_le_mul_of_nonneg_left (by omega) (by omega)
    have e2 : h * (A + 32) ≤ (2 * ((h + 32 + 1) / 2)) * (A + 32) := Int.mul_le_mul_of_nonneg_right (by omega) (by omega)
    have e3 : h * (2 * (T - n)) = 2 * (h * (T - n)) := by rw [Int.mul_left_comm]
    have e4 : (2 * ((h + 32 + 1) / 2)) * (A + 32) = 2 * ((h + 32 + 1) / 2 * (A + 32)) := Int.mul_assoc _ _ _
    omega
  · rw [hsum, hg]
    clear hg hpos hsum
    generalize cs.getD s 0 = h at *
    generalize isum cs = A at *
    have hn0 : (0 : Int) ≤ (cs.length : Int) := by omega
    generalize (cs.length : Int) = n at *
    have e1 : h * (A + 32 - n) ≤ h * (A + 32) := Int.mul_le_mul_of_nonneg_left (by omega) (by omega)
    have e2 : h * (A + 32) ≤ (h + 32) * (A + 32) := Int.mul_le_mul_of_nonneg_right (by omega) (by omega)
    omega

theorem get_le {cs : List Int} {s : Nat} (hv : Vt cs) (hs : s < cs.length) : 1 ≤ cs[s] ∧ cs[s] ≤ 65536 := by
  have h1 := isum_take_succ hs
  have h2 := isum_take_le hv.2.2.1 (s + 1)
  have h3 := isum_take_nonneg hv.2.2.1 s
  have h4 := hv.2.2.2
  have h5 := hv.2.2.1 _ (List.getElem_mem hs)
  omega
theorem mul_small {a b : Int} (ha0 : 0 ≤ a) (ha : a ≤ 100000) (hb0 : 0 ≤ b) (hb : b ≤ 100000) : 0 ≤ a * b ∧ a * b ≤ 10000000000 := by
  refine ⟨Int.mul_nonneg ha0 hb0, ?_⟩
  have h1 : a * b ≤ a * 100000 := Int.mul_le_mul_of_nonneg_left hb ha0
  omega

set_option maxRecDepth 100000 in
set_option maxHeartbeats 4000000 in
theorem law_TableBounds (a : Option Addr) (len cap : Nat) (z : List Int) {w : World} (hrow : IsRow .i64 w a len cap z) (sym : Int) (wsym : (Lit.int .u8 sym).wf = true) (many : Int) (wm : (Lit.int .u8 many).wf = true) :
    Calls Try.prog 6 #[.slice a len cap, .int .u8 sym, .int .u8 many] w fun e w' => e = .returned (.bool true) ∧ Below w.heap.size w w' := by
  obtain ⟨xs, hl, -, hrd, -⟩ := hrow.ints
  subst hl
  have hs0 := (wf_u8 wsym).1
  have hs1 := (wf_u8 wsym).2
  have hm0 := (wf_u8 wm).1
  have hm1 := (wf_u8 wm).2
  clear hrow wsym wm
  have H := Sep.start w
  have HRD : Hid (Reads [HP.old w.heap.size w] (.slice a xs.length cap) xs.length 1 (xs.map iv)) := Lib.hid (Reads.old hrd)
  clear hrd
  generalize hB : HP.old w.heap.size w = O at H HRD
  have HB := Lib.hid hB; clear hB
  by_cases hfew : 40 < xs.length
  · go_enter Try.func6, Try.ntmps6
    go_wp2_with fail
    refine (awake3 H).mono ?_
    rintro e w1 ⟨rfl, H1⟩
    go_wp2_with fail
    go_ret
    subst HB
    exact ⟨rfl, H1.below⟩
  go_enter Try.func6, Try.ntmps6
  go_wp2_with fail
  refine (awake3 H).mono ?_
  rintro e w1 ⟨rfl, H1⟩
  clear H
  go_wp2_with fail
  refine (new_calls HRD.out H1).mono ?_
  rintro e w2 ⟨r, rfl, ⟨hne, rfl, H2⟩ | ⟨he, b, rfl, H2⟩⟩
  · have hne2 : ((tabErr xs : Int) != 0) = true := by rw [bne_iff_ne]; omega
    generalize tabErr xs = t at hne2 ⊢
    clear hne
    go_wp2_with fail
    go_ret
    subst HB
    exact ⟨rfl, H2.below⟩
  have HV0 := Lib.hid (tabErr_ok he)
  have hl1 := HV0.out.1
  have h0 : ((xs.length : Int) == 0) = false := by rw [beq_eq_false_iff_ne]; omega
  clear he H1
  obtain ⟨k, hk⟩ : ∃ k : Nat, (k : Int) = sym % (xs.length : Int) := ⟨(sym % (xs.length : Int)).toNat, Int.toNat_of_nonneg (Int.emod_nonneg _ (by omega))⟩
  have hk2 : k < xs.length := by have := Int.emod_lt_of_pos sym (show (0 : Int) < (xs.length : Int) by omega); omega
  have hrem : sym.tmod (xs.length : Int) = (k : Int) := by rw [Int.tmod_eq_emod_of_nonneg hs0, hk]
  clear hk
  obtain ⟨M, hM⟩ : ∃ M : Nat, (M : Int) = many % 200 := ⟨(many % 200).toNat, by omega⟩
  have hM2 : M < 200 := by omega
  have hrem2 : many.tmod 200 = (M : Int) := by rw [Int.tmod_eq_emod_of_nonneg hm0, hM]
  go_wp2_with fail
  go_loopg [10, 11, 12, 13] M (fun gk i _ _ _ wr => ∃ t : Nat, ∃ cs : List Int, Hid (t ≤ M ∧ gk = M - t ∧ cs.length = xs.length) ∧ Hid (Vt cs) ∧ i = .int .i64 (t : Int) ∧ Sep wr (Tbl b cs :: [O]))
  case atStart => exact ⟨0, xs, Lib.hid ⟨by omega, rfl, rfl⟩, HV0, rfl, H2⟩
  case round =>
    clear H2 hrem
    obtain ⟨t, cs, hq, HV, rfl, Hr⟩ := hrel
    obtain ⟨q1, q2, q3⟩ := hq.out
    clear hq
    by_cases c : t < M
    · have hkc : k < cs.length := by omega
      have hle := get_le HV.out hkc
      have hco := countI_in hkc
      have hbd := bump_bound HV.out hkc
      have e1 : bumpI cs k = bumpOf cs k := by unfold bumpI; rw [if_pos (by omega), Int.toNat_natCast]
      have e2 : bumpE cs k = 0 := by unfold bumpE; rw [if_pos (by omega)]
      have hbl := bumpOf_length cs k
      have HVD := Lib.hid (bumpOf_ok HV.out hkc)
      have HC1 : Hid (∀ w1, Sep w1 (Tbl b cs :: [O]) → Calls Try.prog 26 #[.pointer (some ⟨b, 0, none⟩), .int .i64 (k : Int)] w1 fun e w' => e = .returned (.int .i64 cs[k]) ∧ w1 = w') := Lib.hid fun w1 h => by have := count_calls (i := k) h; rwa [hco] at this
      have HBC : Hid (∀ w1, Sep w1 (Tbl b cs :: [O]) → Calls Try.prog 28 #[.pointer (some ⟨b, 0, none⟩), .int .i64 (k : Int)] w1 fun e w' => e = .returned (.int .i64 0) ∧ Sep w' (Tbl b (bumpOf cs k) :: [O])) := Lib.hid fun w1 h => by have := bump_calls (i := k) HV.out h; rwa [e1, e2] at this
      have hA := isum_nonneg HV.out.2.2.1
      have hA2 := HV.out.2.2.2
      rw [getD_get hkc] at hbd
      clear hco e1 e2
      have q3' : (bumpOf cs k).length = xs.length := by omega
      have hkd : k < (bumpOf cs k).length := by omega
      rw [getD_get hkd] at hbd
      have hld := get_le HVD.out hkd
      have hcod := countI_in hkd
      have HC2 : Hid (∀ w1, Sep w1 (Tbl b (bumpOf cs k) :: [O]) → Calls Try.prog 26 #[.pointer (some ⟨b, 0, none⟩), .int .i64 (k : Int)] w1 fun e w' => e = .returned (.int .i64 (bumpOf cs k)[k]) ∧ w1 = w') := Lib.hid fun w1 h => by have := count_calls (i := k) h; rwa [hcod] at this
      have hB1 := isum_nonneg HVD.out.2.2.1
      have hB2 := HVD.out.2.2.2
      have hT1 : ∀ w1, Sep w1 (Tbl b cs :: [O]) → _ := fun w1 (h : Sep w1 (Tbl b cs :: [O])) => total_calls h
      have HT1 := Lib.hid hT1
      have hT2 : ∀ w1, Sep w1 (Tbl b (bumpOf cs k) :: [O]) → _ := fun w1 (h : Sep w1 (Tbl b (bumpOf cs k) :: [O])) => total_calls h
      have HT2 := Lib.hid hT2
      clear hbl hcod hT1 hT2
      rw [q3'] at hB1
      rw [q3] at hA hbd
      generalize cs[k] = h at *
      generalize isum cs = A at *
      generalize bumpOf cs k = ds at *
      generalize ds[k] = g at *
      generalize isum ds = B at *
      have hm1 := mul_small (a := g) (b := A + 32) (by omega) (by omega) (by omega) (by omega)
      have hm2 := mul_small (a := h) (b := B - (xs.length : Int)) (by omega) (by omega) (by omega) (by omega)
      have hw1 : IntKind.i64.wrap (g * (A + 32)) = g * (A + 32) := IntWalk.i64_in _ ⟨by omega, by omega⟩
      have hw2 : IntKind.i64.wrap (h * (B - (xs.length : Int))) = h * (B - (xs.length : Int)) := IntWalk.i64_in _ ⟨by omega, by omega⟩
      have hnot : ¬ g * (A + 32) < h * (B - (xs.length : Int)) := by omega
      have hw1' : wrap64 (g * (A + 32)) = g * (A + 32) := by rw [← IntWalk.i64_left]; exact hw1
      have hw2' : wrap64 (h * (B - (xs.length : Int))) = h * (B - (xs.length : Int)) := by rw [← IntWalk.i64_left]; exact hw2
      have hd : decide (g * (A + 32) < h * (B - (xs.length : Int))) = false := decide_eq_false hnot
      go_wp2_with fail
      refine (HT1.out _ Hr).mono ?_
      rintro e w3 ⟨rfl, rfl⟩
      go_wp2_with fail
      refine (HC1.out _ Hr).mono ?_
      rintro e w3 ⟨rfl, rfl⟩
      go_wp2_with fail
      refine (HBC.out _ Hr).mono ?_
      rintro e w3 ⟨rfl, H3⟩
      clear Hr
      go_wp2_with fail
      refine (HT2.out _ H3).mono ?_
      rintro e w4 ⟨rfl, rfl⟩
      go_wp2_with fail
      refine (HT2.out _ H3).mono ?_
      rintro e w4 ⟨rfl, rfl⟩
      go_wp2_with fail
      go_loopg [13] xs.length (fun gk i wr => wr = w3 ∧ ∃ u : Nat, Hid (u ≤ xs.length ∧ gk = xs.length - u) ∧ i = .int .i64 (u : Int))
      case atStart => exact ⟨rfl, 0, Lib.hid ⟨by omega, rfl⟩, rfl⟩
      case round =>
        obtain ⟨rfl, u, hq, rfl⟩ := hrel
        obtain ⟨q4, q5⟩ := hq.out
        clear hq
        by_cases cu : u < xs.length
        · have hud : u < ds.length := by omega
          have hlu := (get_le HVD.out hud).1
          have hcu := count_calls (i := u) H3
          rw [countI_in hud] at hcu
          generalize ds[u] = p at hlu hcu
          have HCU := Lib.hid hcu
          clear hcu
          go_wp2_with fail
          refine HCU.out.mono ?_
          rintro e w4 ⟨rfl, rfl⟩
          go_wp2_with fail
          go_roundg (xs.length - (u + 1))
          case rel => exact ⟨rfl, u + 1, Lib.hid ⟨by omega, rfl⟩, by go_num⟩
          case measure => omega
        · go_wp2_with fail
          refine (HC2.out _ H3).mono ?_
          rintro e w4 ⟨rfl, rfl⟩
          go_wp2_with fail
          refine (HT2.out _ H3).mono ?_
          rintro e w4 ⟨rfl, rfl⟩
          go_wp2_with fail
          go_roundg (M - (t + 1))
          case rel => exact ⟨t + 1, ds, Lib.hid ⟨by omega, rfl, q3'⟩, HVD, by go_num, H3⟩
          case measure => omega
    · go_wp2_with fail
      go_ret
      subst HB
      exact ⟨rfl, Hr.tail.below⟩

end Go.Proofs.Ytglinpclcmmnbaa
