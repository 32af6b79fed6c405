import Derived.Test.YtoejgfbeemokcaaNum1
import Derived.Test.YtoejgfbeemokcaaBits4
import Derived.Test.YtoejgfbeemokcaaFrame
namespace Go.Proofs.Ytoejgfbeemokcaa
open Go.RowKit

theorem put_eq {v n : Int} {V k b : Nat} {l : List Bool} {R : List HP} {w : World} (hv : v = (V : Int)) (hk : n = (k : Int)) (hn : k ≤ 64) (hV : V < 2 ^ k) (hl : l.length + k ≤ 33554432) (H : Sep w (Wr b l :: R)) :
    Calls Try.prog 22 #[.pointer (some ⟨b, 0, none⟩), .int .u64 v, .int .i64 n] w fun e w' => e = .returned (.int .i64 0) ∧ Sep w' (Wr b (l ++ valBits V k) :: R) := by
  subst hk; subst hv; exact put_ok hn hV hl H

set_option maxHeartbeats 400000 in
theorem size_calls {n : Nat} (hn : n ≤ 4294967296) {w : World} : Calls Try.prog 38 #[.int .u64 (n : Int)] w fun e w' => e = .returned (.int .i64 (sizeN n : Int)) ∧ w = w' := by
  have hk := halfN_le hn
  have hs : 2 * (halfN n : Int) + 1 = (sizeN n : Int) := by unfold sizeN; omega
  have HS := Lib.hid hs
  clear hs
  go_enter Try.func38, Try.ntmps38
  go_wp2_with fail
  refine (half_calls hn).mono ?_
  rintro e w' ⟨rfl, rfl⟩
  generalize halfN n = k at *
  go_wp2_with fail
  go_ret
  exact ⟨ret_i64 HS.out, rfl⟩

set_option maxHeartbeats 400000 in
theorem size_big {n : Int} (hn : 4294967296 < n) {w : World} : Calls Try.prog 38 #[.int .u64 n] w fun e w' => e = .returned (.int .i64 0) ∧ w = w' := by
  go_enter Try.func38, Try.ntmps38
  go_wp2_with fail
  go_ret
  exact ⟨rfl, rfl⟩

set_option maxHeartbeats 400000 in
theorem nput_nil (n : Int) {w : World} : Calls Try.prog 36 #[.pointer none, .int .u64 n] w fun e w' => e = .returned (.int .i64 1) ∧ w = w' := by
  go_enter Try.func36, Try.ntmps36
  go_wp2_with fail
  go_ret
  exact ⟨rfl, rfl⟩

set_option maxHeartbeats 400000 in
theorem nput_big {n : Int} (hn : 4294967296 < n) (b : Nat) {w : World} : Calls Try.prog 36 #[.pointer (some ⟨b, 0, none⟩), .int .u64 n] w fun e w' => e = .returned (.int .i64 2) ∧ w = w' := by
  go_enter Try.func36, Try.ntmps36
  go_wp2_with fail
  go_ret
  exact ⟨rfl, rfl⟩

set_option maxRecDepth 100000 in
set_option maxHeartbeats 400000 in
theorem nput_ok {n b : Nat} {l : List Bool} {R : List HP} {w : World} (hn : n ≤ 4294967296) (hl : l.length + sizeN n ≤ 33554432) (H : Sep w (Wr b l :: R)) :
    Calls Try.prog 36 #[.pointer (some ⟨b, 0, none⟩), .int .u64 (n : Int)] w fun e w' => e = .returned (.int .i64 0) ∧ Sep w' (Wr b (l ++ longN n) :: R) := by
  have hk := halfN_le hn
  have hlt := halfN_lt hn
  have hsz : sizeN n = 2 * halfN n + 1 := rfl
  have hl2 : (l ++ valBits 0 (halfN n)).length + (halfN n + 1) ≤ 33554432 := by rw [List.length_append, valBits_length]; omega
  have HLT := Lib.hid hlt
  have hlen : l.length + halfN n ≤ 33554432 := by omega
  have hg : (l.length : Int) + (sizeN n : Int) ≤ 33554432 := by omega
  have hres : l ++ valBits 0 (halfN n) ++ valBits (n + 1) (halfN n + 1) = l ++ longN n := by rw [valBits_of_zero, List.append_assoc]; rfl
  have HRES := Lib.hid hres
  obtain ⟨s, hs⟩ : ∃ s, s = sizeN n := ⟨_, rfl⟩
  rw [← hs] at hg
  have HS := Lib.hid hs
  clear hs
  have HL2 := Lib.hid hl2
  have HLEN := Lib.hid hlen
  have HN := Lib.hid hn
  have hnI : (n : Int) ≤ 4294967296 := by omega
  clear hlt hsz hres hl hl2 hlen hn
  go_enter Try.func36, Try.ntmps36
  go_wp2_with fail
  refine (len_calls H).mono ?_
  rintro e w1 ⟨rfl, rfl⟩
  go_wp2_with fail
  refine (size_calls HN.out).mono ?_
  rintro e w1 ⟨rfl, rfl⟩
  rw [← HS.out]
  go_wp2_with fail
  refine (half_calls HN.out).mono ?_
  rintro e w1 ⟨rfl, rfl⟩
  go_wp2_with fail
  generalize halfN n = k at HLEN hk HL2 HLT HRES ⊢
  refine (put_eq (V := 0) (k := k) rfl rfl (by omega) (Nat.two_pow_pos _) HLEN.out H).mono ?_
  rintro e w2 ⟨rfl, H2⟩
  go_wp2_with fail
  refine (put_eq (V := n + 1) (k := k + 1) rfl rfl (by omega) HLT.out HL2.out H2).mono ?_
  rintro e w3 ⟨rfl, H3⟩
  rw [HRES.out] at H3
  go_wp2_with fail
  go_ret
  exact ⟨rfl, H3⟩

set_option maxHeartbeats 400000 in
theorem width_calls {b : Int} (hb : b ≤ 9223372036854775807) (hb2 : -9223372036854775808 ≤ b) {w : World} : Calls Try.prog 48 #[.int .i64 b] w fun e w' => e = .returned (.int .i64 (widthN b : Int)) ∧ w = w' := by
  by_cases h : b < 2
  · have e : widthN b = 0 := by unfold widthN; rw [if_pos h]
    rw [e]
    clear hb e
    go_enter Try.func48, Try.ntmps48
    go_wp2_with fail
    go_ret
    exact ⟨rfl, rfl⟩
  · have e : widthN b = Lib.bitLen (b - 1).toNat := by unfold widthN; rw [if_neg h]
    rw [e]
    have h2 : 2 ≤ b := by omega
    obtain ⟨k, hk⟩ : ∃ k, k = Lib.bitLen (b - 1).toNat := ⟨_, rfl⟩
    rw [← hk]
    have HK := Lib.hid hk
    clear e h hk
    go_enter Try.func48, Try.ntmps48
    go_wp2_with fail
    refine (bits_Len64 _ _ (by omega) (by omega)).mono ?_
    rintro e w' ⟨rfl, rfl⟩
    rw [← HK.out]
    go_wp2_with fail
    go_ret
    exact ⟨rfl, rfl⟩

end Go.Proofs.Ytoejgfbeemokcaa
