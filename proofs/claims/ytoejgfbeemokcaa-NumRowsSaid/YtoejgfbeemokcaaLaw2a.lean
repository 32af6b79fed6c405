import Derived.Test.YtoejgfbeemokcaaLaw2
namespace Go.Proofs.Ytoejgfbeemokcaa
open Go.RowKit

theorem half_step {n k : Nat} (h : n ≤ 4294967296) (hk : k ≤ halfN n) : (k < halfN n → 2 ≤ (n + 1) / 2 ^ k) ∧ (k = halfN n → (n + 1) / 2 ^ k = 1) := by
  have h1 := halfN_low h
  have h2 := halfN_lt h
  constructor
  · intro hlt
    have : 2 ^ (k + 1) ≤ n + 1 := Nat.le_trans (Nat.pow_le_pow_right (by decide) hlt) h1
    rw [Nat.le_div_iff_mul_le (Nat.two_pow_pos k), Nat.mul_comm, ← Nat.pow_succ]
    exact this
  · intro he
    subst he
    rw [Nat.pow_succ] at h2
    have hp := Nat.two_pow_pos (halfN n)
    have h3 : 1 ≤ (n + 1) / 2 ^ halfN n := by rw [Nat.le_div_iff_mul_le hp]; omega
    have h4 : (n + 1) / 2 ^ halfN n < 2 := by rw [Nat.div_lt_iff_lt_mul hp]; omega
    omega

set_option maxHeartbeats 400000 in
theorem long_big {n : Int} (hn : 4294967296 < n) {w : World} : Calls Try.prog 37 #[.int .u64 n] w fun e w' => e = .returned (.string ⟨#[]⟩) ∧ w = w' := by
  go_enter Try.func37, Try.ntmps37
  go_wp2_with fail
  go_ret
  exact ⟨rfl, rfl⟩

set_option maxRecDepth 100000 in
set_option maxHeartbeats 2000000 in
theorem long_calls {n : Nat} (hn : n ≤ 4294967296) {w : World} : Calls Try.prog 37 #[.int .u64 (n : Int)] w fun e w' => e = .returned (.string (bitStr (longN n))) ∧ w = w' := by
  have hk32 := halfN_le hn
  have hstep := fun k => half_step (k := k) hn
  have hlt := halfN_lt hn
  have hlong : longN n = List.replicate (halfN n) false ++ valBits (n + 1) (halfN n + 1) := rfl
  obtain ⟨K, hK⟩ : ∃ K, K = halfN n := ⟨_, rfl⟩
  rw [← hK] at hk32 hlong hlt
  have hstep' : ∀ k, k ≤ K → (k < K → 2 ≤ (n + 1) / 2 ^ k) ∧ (k = K → (n + 1) / 2 ^ k = 1) := by rw [hK]; exact hstep
  have HSTEP := Lib.hid hstep'
  have HLONG := Lib.hid hlong
  have HLT := Lib.hid hlt
  have hnI : (n : Int) ≤ 4294967296 := by omega
  have HN := Lib.hid hn
  clear hstep hstep' hlong hK hn hlt
  go_enter Try.func37, Try.ntmps37
  go_wp2_with fail
  go_loop [3, 4] (fun kk x => ∃ k : Nat, k ≤ K ∧ kk = .int .i64 (k : Int) ∧ x = .int .u64 (((n + 1) / 2 ^ k : Nat) : Int)) (fun kk _ => K - (intOf kk).toNat)
  case atStart => exact ⟨0, by omega, rfl, by simp⟩
  case round =>
    obtain ⟨k, hk, rfl, rfl⟩ := hrel
    have hs := HSTEP.out k hk
    have hb : (n + 1) / 2 ^ k ≤ 4294967297 := by have := Nat.div_le_self (n + 1) (2 ^ k); have := HN.out; omega
    have hnx : Hid ((n + 1) / 2 ^ k / 2 = (n + 1) / 2 ^ (k + 1)) := Lib.hid (by rw [Nat.pow_succ, ← Nat.div_div_eq_div_mul])
    generalize (n + 1) / 2 ^ k = x at hs hb hnx ⊢
    have hbI : (x : Int) ≤ 4294967297 := by omega
    by_cases hlt : k < K
    · have h2 : (1 : Int) < (x : Int) := by have := hs.1 hlt; omega
      clear hs hb
      go_wp2_with fail
      go_round
      case rel => exact ⟨k + 1, by omega, by go_num, by rw [← hnx.out]; rfl⟩
      case measure => simp [intOf]; omega
    · have hkK : k = K := by omega
      have h2 : ¬ (1 : Int) < (x : Int) := by have := hs.2 hkK; omega
      subst hkK
      clear hs hb hnx
      go_wp2_with fail
      go_loop [5, 6] (fun s i => ∃ j : Nat, j ≤ k ∧ i = .int .i64 (j : Int) ∧ s = .string (bitStr (List.replicate j false))) (fun _ i => k - (intOf i).toNat)
      case atStart => exact ⟨0, by omega, rfl, rfl⟩
      case round =>
        obtain ⟨j, hj, rfl, rfl⟩ := hrel
        have hsz : (bitStr (List.replicate j false)).size ≤ 64 := by rw [bitStr_size, List.length_replicate]; omega
        have hnx : bitStr (List.replicate j false) ++ bitStr [false] = bitStr (List.replicate (j + 1) false) := by rw [bitStr_append, List.replicate_succ']
        have HNX := Lib.hid hnx
        clear hnx
        by_cases hjl : j < k
        · generalize bitStr (List.replicate j false) = q at *
          go_wp2_with fail
          go_round
          case rel => exact ⟨j + 1, by omega, by go_num, by rw [← HNX.out]; rfl⟩
          case measure => simp [intOf]; omega
        · obtain rfl : j = k := by omega
          have hfin : bitStr (List.replicate j false) ++ bitStr (valBits (n + 1) (j + 1)) = bitStr (longN n) := by rw [bitStr_append, HLONG.out]
          have HFIN := Lib.hid hfin
          clear hfin HNX
          have h64 := two64
          have h33 : n + 1 < 2 ^ 64 := by have := HN.out; omega
          have H33 := Lib.hid h33
          clear h64 h33
          generalize bitStr (List.replicate j false) = q at *
          go_wp2_with fail
          refine (binary_int (V := n + 1) (k := j + 1) rfl rfl H33.out (by omega)).mono ?_
          rintro e w' ⟨rfl, rfl⟩
          have hsz2 : (bitStr (valBits (n + 1) (j + 1))).size ≤ 64 := by rw [bitStr_size, valBits_length]; omega
          generalize bitStr (valBits (n + 1) (j + 1)) = q2 at *
          go_wp2_with fail
          go_ret
          exact ⟨ret_str HFIN.out, rfl⟩

set_option maxHeartbeats 1000000 in
theorem law_NumZigs (n : Int) (wn : (Lit.int .i64 n).wf = true) (u : Int) (wu : (Lit.int .u64 u).wf = true) {w : World} :
    Calls Try.prog 10 #[.int .i64 n, .int .u64 u] w fun e w' => e = .returned (.bool true) ∧ Below w.heap.size w w' := by
  have hn0 := (wf_i64 wn).1
  have hn1 := (wf_i64 wn).2
  have hu0 := (wf_u64 wu).1
  have hu1 := (wf_u64 wu).2
  have hz := zigZ_range hn0 hn1
  have hg := zagZ_range hu0 hu1
  have hzz := zag_zig n
  have hgg := zig_zag hu0
  have hhalf : zigZ n / 2 ≤ max n (-n) := by unfold zigZ; split <;> omega
  clear wn wu
  have H := Sep.start w
  generalize hB : HP.old w.heap.size w = O at H
  have HB := Lib.hid hB; clear hB
  have CZ := Lib.hid (fun w1 : World => zig_calls hn0 hn1 (w := w1))
  have CRZ := Lib.hid (fun w1 : World => rzig_calls hn0 hn1 (w := w1))
  have CG := Lib.hid (fun w1 : World => zag_calls hu0 hu1 (w := w1))
  have CRG := Lib.hid (fun w1 : World => rzag_calls hu0 hu1 (w := w1))
  have CZG := fun w1 : World => zag_calls hz.1 hz.2 (w := w1)
  have CGZ := fun w1 : World => zig_calls hg.1 hg.2 (w := w1)
  rw [hzz] at CZG
  rw [hgg] at CGZ
  have HCZG := Lib.hid CZG
  have HCGZ := Lib.hid CGZ
  have hz0 := hz.1
  have hz1 := hz.2
  have HH := Lib.hid hhalf
  clear hzz hgg CZG CGZ hz hhalf
  generalize zigZ n = z at *
  generalize zagZ u = g at *
  go_enter Try.func10, Try.ntmps10
  go_wp2_with fail
  refine (awake2 H).mono ?_
  rintro e w1 ⟨rfl, H1⟩
  clear H
  go_wp2_with fail
  refine (CZ.out _).mono ?_
  rintro e w2 ⟨rfl, rfl⟩
  go_wp2_with fail
  refine (CRZ.out _).mono ?_
  rintro e w2 ⟨rfl, rfl⟩
  go_wp2_with fail
  refine (CG.out _).mono ?_
  rintro e w2 ⟨rfl, rfl⟩
  go_wp2_with fail
  refine (CRG.out _).mono ?_
  rintro e w2 ⟨rfl, rfl⟩
  go_wp2_with fail
  refine (CZ.out _).mono ?_
  rintro e w2 ⟨rfl, rfl⟩
  go_wp2_with fail
  refine (HCZG.out _).mono ?_
  rintro e w2 ⟨rfl, rfl⟩
  go_wp2_with fail
  refine (CG.out _).mono ?_
  rintro e w2 ⟨rfl, rfl⟩
  go_wp2_with fail
  refine (HCGZ.out _).mono ?_
  rintro e w2 ⟨rfl, rfl⟩
  by_cases hm : -4611686018427387904 ≤ n ∧ n < 4611686018427387904
  · have hm0 := hm.1
    have hm1 := hm.2
    clear hm
    go_wp2_with fail
    refine (CZ.out _).mono ?_
    rintro e w2 ⟨rfl, rfl⟩
    go_wp2_with fail
    go_ret
    subst HB
    refine ⟨ret_bool ?_, H1.below⟩
    rw [decide_eq_true HH.out, Bool.or_true]
  · have hm2 : n < -4611686018427387904 ∨ (¬ n < -4611686018427387904 ∧ 4611686018427387904 ≤ n) := by omega
    clear hm
    rcases hm2 with h | ⟨h, h'⟩
    all_goals
      go_wp2_with fail
      go_ret
      subst HB
      exact ⟨rfl, H1.below⟩

end Go.Proofs.Ytoejgfbeemokcaa
