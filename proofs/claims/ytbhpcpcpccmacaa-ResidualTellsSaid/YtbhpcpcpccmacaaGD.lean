/- XNum1 XNum2 Numbers as bits, and back. XNum3 XNum4 XNum5 XNum6 -/
import Derived.Test.YtbhpcpcpccmacaaGC
import Derived.Test.YtbhpcpcpccmacaaLen64
import Derived.Test.YtbhpcpcpccmacaaNumPlain
import Derived.Test.YtbhpcpcpccmacaaGB
import Derived.Test.YtbhpcpcpccmacaaGA
import Derived.Lib.Zigzag

namespace Go.Proofs.Ytbhpcpcpccmacaa
open Go.RowKit

set_option maxHeartbeats 400000 in
theorem half_calls {n : Nat} (hn : n ≤ 4294967296) {w : World} : Calls Try.prog 69 #[.int .u64 (n : Int)] w fun e w' => e = .returned (.int .i64 (halfN n : Int)) ∧ w = w' := by
  have h64 := two64
  have hp := bitLen_pos (x := n + 1) (by omega) (by omega)
  have hl := bitLen_le (x := n + 1) (k := 64) (by omega) (by omega)
  have hh : (Lib.bitLen (n + 1) : Int) - 1 = (halfN n : Int) := by unfold halfN; omega
  have HH := Lib.hid hh
  clear hh h64
  go_enter Try.func69, Try.ntmps69
  go_wp2_with fail
  refine (bits_Len64 _ _ (by omega) (by omega)).mono ?_
  rintro e w' ⟨rfl, rfl⟩
  rw [show ((n : Int) + 1).toNat = n + 1 from rfl]
  generalize Lib.bitLen (n + 1) = k at *
  go_wp2_with fail
  go_ret
  exact ⟨ret_i64 HH.out, rfl⟩

end Go.Proofs.Ytbhpcpcpccmacaa

namespace Go.Proofs.Ytbhpcpcpccmacaa
open Go.RowKit

theorem put_eq {v n : Int} {V k b : Nat} {l : List Bool} {R : List HP} {w : World} (hv : v = (V : Int)) (hk : n = (k : Int)) (hn : k ≤ 64) (hV : V < 2 ^ k) (hl : l.length + k ≤ 33554432) (H : Sep w (Wr b l :: R)) :
    Calls Try.prog 74 #[.pointer (some ⟨b, 0, none⟩), .int .u64 v, .int .i64 n] w fun e w' => e = .returned (.int .i64 0) ∧ Sep w' (Wr b (l ++ valBits V k) :: R) := by
  subst hk; subst hv; exact put_ok hn hV hl H

set_option maxHeartbeats 400000 in
theorem size_calls {n : Nat} (hn : n ≤ 4294967296) {w : World} : Calls Try.prog 42 #[.int .u64 (n : Int)] w fun e w' => e = .returned (.int .i64 (sizeN n : Int)) ∧ w = w' := by
  have hk := halfN_le hn
  have hs : 2 * (halfN n : Int) + 1 = (sizeN n : Int) := by unfold sizeN; omega
  have HS := Lib.hid hs
  clear hs
  go_enter Try.func42, Try.ntmps42
  go_wp2_with fail
  refine (half_calls hn).mono ?_
  rintro e w' ⟨rfl, rfl⟩
  generalize halfN n = k at *
  go_wp2_with fail
  go_ret
  exact ⟨ret_i64 HS.out, rfl⟩

set_option maxHeartbeats 400000 in
theorem size_big {n : Int} (hn : 4294967296 < n) {w : World} : Calls Try.prog 42 #[.int .u64 n] w fun e w' => e = .returned (.int .i64 0) ∧ w = w' := by
  go_enter Try.func42, Try.ntmps42
  go_wp2_with fail
  go_ret
  exact ⟨rfl, rfl⟩

set_option maxHeartbeats 400000 in
theorem nput_nil (n : Int) {w : World} : Calls Try.prog 70 #[.pointer none, .int .u64 n] w fun e w' => e = .returned (.int .i64 1) ∧ w = w' := by
  go_enter Try.func70, Try.ntmps70
  go_wp2_with fail
  go_ret
  exact ⟨rfl, rfl⟩

set_option maxHeartbeats 400000 in
theorem nput_big {n : Int} (hn : 4294967296 < n) (b : Nat) {w : World} : Calls Try.prog 70 #[.pointer (some ⟨b, 0, none⟩), .int .u64 n] w fun e w' => e = .returned (.int .i64 2) ∧ w = w' := by
  go_enter Try.func70, Try.ntmps70
  go_wp2_with fail
  go_ret
  exact ⟨rfl, rfl⟩

set_option maxRecDepth 100000 in
set_option maxHeartbeats 400000 in
theorem nput_ok {n b : Nat} {l : List Bool} {R : List HP} {w : World} (hn : n ≤ 4294967296) (hl : l.length + sizeN n ≤ 33554432) (H : Sep w (Wr b l :: R)) :
    Calls Try.prog 70 #[.pointer (some ⟨b, 0, none⟩), .int .u64 (n : Int)] w fun e w' => e = .returned (.int .i64 0) ∧ Sep w' (Wr b (l ++ longN n) :: R) := by
  have hk := halfN_le hn
  have hlt := halfN_lt hn
  have hsz : sizeN n = 2 * halfN n + 1 := rfl
  have hl2 : (l ++ valBits 0 (halfN n)).length + (halfN n + 1) ≤ 33554432 := by rw [List.length_append, valBits_length]; omega
  have HLT := Lib.hid hlt
  have hlen : l.length + halfN n ≤ 33554432 := by omega
  have hg : (l.length : Int) + (sizeN n : Int) ≤ 33554432 := by omega
  have hres : l ++ valBits 0 (halfN n) ++ valBits (n + 1) (halfN n + 1) = l ++ longN n := by rw [valBits_of_zero, List.append_assoc]; rfl
  have HRES := Lib.hid hres
  obtain ⟨s, hs⟩ : ∃ s, s = sizeN n := ⟨_, rfl⟩
  rw [← hs] at hg
  have HS := Lib.hid hs
  clear hs
  have HL2 := Lib.hid hl2
  have HLEN := Lib.hid hlen
  have HN := Lib.hid hn
  have hnI : (n : Int) ≤ 4294967296 := by omega
  clear hlt hsz hres hl hl2 hlen hn
  go_enter Try.func70, Try.ntmps70
  go_wp2_with fail
  refine (len_calls H).mono ?_
  rintro e w1 ⟨rfl, rfl⟩
  go_wp2_with fail
  refine (size_calls HN.out).mono ?_
  rintro e w1 ⟨rfl, rfl⟩
  rw [← HS.out]
  go_wp2_with fail
  refine (half_calls HN.out).mono ?_
  rintro e w1 ⟨rfl, rfl⟩
  go_wp2_with fail
  generalize halfN n = k at HLEN hk HL2 HLT HRES ⊢
  refine (put_eq (V := 0) (k := k) rfl rfl (by omega) (Nat.two_pow_pos _) HLEN.out H).mono ?_
  rintro e w2 ⟨rfl, H2⟩
  go_wp2_with fail
  refine (put_eq (V := n + 1) (k := k + 1) rfl rfl (by omega) HLT.out HL2.out H2).mono ?_
  rintro e w3 ⟨rfl, H3⟩
  rw [HRES.out] at H3
  go_wp2_with fail
  go_ret
  exact ⟨rfl, H3⟩

set_option maxHeartbeats 400000 in
theorem width_calls {b : Int} (hb : b ≤ 9223372036854775807) (hb2 : -9223372036854775808 ≤ b) {w : World} : Calls Try.prog 62 #[.int .i64 b] w fun e w' => e = .returned (.int .i64 (widthN b : Int)) ∧ w = w' := by
  by_cases h : b < 2
  · have e : widthN b = 0 := by unfold widthN; rw [if_pos h]
    rw [e]
    clear hb e
    go_enter Try.func62, Try.ntmps62
    go_wp2_with fail
    go_ret
    exact ⟨rfl, rfl⟩
  · have e : widthN b = Lib.bitLen (b - 1).toNat := by unfold widthN; rw [if_neg h]
    rw [e]
    have h2 : 2 ≤ b := by omega
    obtain ⟨k, hk⟩ : ∃ k, k = Lib.bitLen (b - 1).toNat := ⟨_, rfl⟩
    rw [← hk]
    have HK := Lib.hid hk
    clear e h hk
    go_enter Try.func62, Try.ntmps62
    go_wp2_with fail
    refine (bits_Len64 _ _ (by omega) (by omega)).mono ?_
    rintro e w' ⟨rfl, rfl⟩
    rw [← HK.out]
    go_wp2_with fail
    go_ret
    exact ⟨rfl, rfl⟩

end Go.Proofs.Ytbhpcpcpccmacaa

namespace Go.Proofs.Ytbhpcpcpccmacaa

theorem valBits_succ (v n : Nat) : valBits v (n + 1) = valBits (v / 2) n ++ [v.testBit 0] := by
  unfold valBits
  rw [List.range_succ, List.map_append]
  congr 1
  · refine List.map_congr_left fun i hi => ?_
    have hi' := List.mem_range.1 hi
    rw [Nat.testBit_div_two]
    congr 1; omega
  · simp

theorem ofBits_valBits (v n : Nat) (h : v < 2 ^ n) : ofBits (valBits v n) = v := by
  induction n generalizing v with
  | zero => simp [valBits, ofBits]; omega
  | succ n ih =>
    rw [valBits_succ, ofBits_snoc, ih (v / 2) (by rw [Nat.pow_succ] at h; omega), Nat.testBit_zero]
    rcases Nat.mod_two_eq_zero_or_one v with h0 | h0 <;> simp [h0] <;> omega

end Go.Proofs.Ytbhpcpcpccmacaa

namespace Go.Proofs.Ytbhpcpcpccmacaa
open Go.RowKit

set_option maxHeartbeats 400000 in
theorem fixed_nil (v b : Int) {w : World} : Calls Try.prog 78 #[.pointer none, .int .i64 v, .int .i64 b] w fun e w' => e = .returned (.int .i64 1) ∧ w = w' := by
  go_enter Try.func78, Try.ntmps78
  go_wp2_with fail
  go_ret
  exact ⟨rfl, rfl⟩

set_option maxHeartbeats 400000 in
theorem fixed_range {v b : Int} (h : v < 0 ∨ b ≤ v) (q : Nat) {w : World} : Calls Try.prog 78 #[.pointer (some ⟨q, 0, none⟩), .int .i64 v, .int .i64 b] w fun e w' => e = .returned (.int .i64 2) ∧ w = w' := by
  rcases h with h | h
  · go_enter Try.func78, Try.ntmps78
    go_wp2_with fail
    go_ret
    exact ⟨rfl, rfl⟩
  · by_cases h0 : v < 0
    · go_enter Try.func78, Try.ntmps78
      go_wp2_with fail
      go_ret
      exact ⟨rfl, rfl⟩
    · go_enter Try.func78, Try.ntmps78
      go_wp2_with fail
      go_ret
      exact ⟨rfl, rfl⟩

set_option maxHeartbeats 400000 in
theorem fixed_ok {v b : Int} {q : Nat} {l : List Bool} {R : List HP} {w : World} (hv0 : 0 ≤ v) (hv : v < b) (hb : b ≤ 9223372036854775807) (hl : l.length + widthN b ≤ 33554432) (H : Sep w (Wr q l :: R)) :
    Calls Try.prog 78 #[.pointer (some ⟨q, 0, none⟩), .int .i64 v, .int .i64 b] w fun e w' => e = .returned (.int .i64 0) ∧ Sep w' (Wr q (l ++ valBits v.toNat (widthN b)) :: R) := by
  have hk := widthN_le hb
  have hlt := widthN_lt (v := v.toNat) hb (by omega)
  have hw := width_calls hb (by omega) (w := w)
  generalize widthN b = k at hk hlt hw hl ⊢
  have HLT := Lib.hid hlt
  have HL := Lib.hid hl
  have HW := Lib.hid hw
  have hg : (l.length : Int) + (k : Int) ≤ 33554432 := by omega
  clear hlt hl hw
  go_enter Try.func78, Try.ntmps78
  go_wp2_with fail
  refine (len_calls H).mono ?_
  rintro e w1 ⟨rfl, rfl⟩
  go_wp2_with fail
  refine HW.out.mono ?_
  rintro e w1 ⟨rfl, rfl⟩
  go_wp2_with fail
  refine HW.out.mono ?_
  rintro e w1 ⟨rfl, rfl⟩
  go_wp2_with fail
  refine (put_eq (V := v.toNat) (k := k) (by omega) rfl (by omega) HLT.out HL.out H).mono ?_
  rintro e w2 ⟨rfl, H2⟩
  go_wp2_with fail
  go_ret
  exact ⟨rfl, H2⟩

/-- What Unfixed gives. -/
def unfixOf (l : List Bool) (i : Nat) (b : Int) : Int × Nat × Nat :=
  if b < 1 then (0, 2, i)
  else if l.length < i + widthN b then (0, 4, i)
  else if b ≤ (ofBits ((l.drop i).take (widthN b)) : Int) then (0, 3, i + widthN b)
  else ((ofBits ((l.drop i).take (widthN b)) : Int), 0, i + widthN b)

set_option maxHeartbeats 400000 in
theorem unfixed_nil (b : Int) {w : World} : Calls Try.prog 90 #[.pointer none, .int .i64 b] w fun e w' => e = .returned (.tuple #[.int .i64 0, .int .i64 1]) ∧ w = w' := by
  go_enter Try.func90, Try.ntmps90
  go_wp2_with fail
  go_ret2
  exact ⟨rfl, rfl⟩

set_option maxRecDepth 100000 in
set_option maxHeartbeats 1000000 in
theorem unfixed_all {b : Int} {q i : Nat} {l : List Bool} {R : List HP} {w : World} (hb : b ≤ 9223372036854775807) (hi : i ≤ l.length) (hl : l.length ≤ 33554432) (H : Sep w (Rdr q l i :: R)) :
    Calls Try.prog 90 #[.pointer (some ⟨q, 0, none⟩), .int .i64 b] w fun e w' => e = .returned (.tuple #[.int .i64 (unfixOf l i b).1, .int .i64 ((unfixOf l i b).2.1 : Int)]) ∧ Sep w' (Rdr q l (unfixOf l i b).2.2 :: R) := by
  unfold unfixOf
  by_cases h1 : b < 1
  · rw [if_pos h1]
    go_enter Try.func90, Try.ntmps90
    go_wp2_with fail
    go_ret2
    exact ⟨rfl, H⟩
  rw [if_neg h1]
  have hk := widthN_le hb
  have hw := fun w1 => width_calls hb (by omega) (w := w1)
  have hlt : ∀ m : Nat, (m : Int) < b → m < 2 ^ widthN b := fun m hm => widthN_lt hb hm
  generalize widthN b = k at hk hw hlt ⊢
  have HW := Lib.hid hw
  clear hw hlt
  have h1' : 1 ≤ b := by omega
  by_cases h2 : l.length < i + k
  · rw [if_pos h2]
    have h2' : (l.length : Int) - (i : Int) < (k : Int) := by omega
    clear h1 h2
    go_enter Try.func90, Try.ntmps90
    go_wp2_with fail
    refine (left_ok hi hl H).mono ?_
    rintro e w1 ⟨rfl, n1, rfl⟩
    have H1 := H.drewN n1
    generalize w.drewN n1 = w1 at H1 ⊢
    go_wp2_with fail
    refine (HW.out _).mono ?_
    rintro e w2 ⟨rfl, rfl⟩
    go_wp2_with fail
    go_ret2
    exact ⟨rfl, H1⟩
  rw [if_neg h2]
  have h2' : (k : Int) ≤ (l.length : Int) - (i : Int) := by omega
  have hik : i + k ≤ l.length := by omega
  have hVl := ofBits_lt ((l.drop i).take k)
  rw [List.length_take, List.length_drop, Nat.min_eq_left (by omega)] at hVl
  have hV63 : ofBits ((l.drop i).take k) ≤ 9223372036854775807 := by
    have h63 : (2 : Nat) ^ 63 = 9223372036854775808 := by decide +kernel
    have := Nat.pow_le_pow_right (n := 2) (by decide) hk
    omega
  obtain ⟨V, hV⟩ : ∃ V, V = ofBits ((l.drop i).take k) := ⟨_, rfl⟩
  rw [← hV] at hV63 ⊢
  have hVI : (V : Int) ≤ 9223372036854775807 := by omega
  have HV := Lib.hid hV
  have HIK := Lib.hid hik
  clear h1 h2 hVl hV63 hV hik
  by_cases h3 : b ≤ (V : Int)
  · rw [if_pos h3]
    go_enter Try.func90, Try.ntmps90
    go_wp2_with fail
    refine (left_ok hi hl H).mono ?_
    rintro e w1 ⟨rfl, n1, rfl⟩
    have H1 := H.drewN n1
    generalize w.drewN n1 = w1 at H1 ⊢
    go_wp2_with fail
    refine (HW.out _).mono ?_
    rintro e w2 ⟨rfl, rfl⟩
    go_wp2_with fail
    refine (HW.out _).mono ?_
    rintro e w2 ⟨rfl, rfl⟩
    go_wp2_with fail
    refine (get_ok (by omega) HIK.out hl H1).mono ?_
    rintro e w2 ⟨rfl, H2⟩
    rw [← HV.out]
    go_wp2_with fail
    go_ret2
    exact ⟨rfl, H2⟩
  · rw [if_neg h3]
    have h3' : (V : Int) < b := by omega
    clear h3
    go_enter Try.func90, Try.ntmps90
    go_wp2_with fail
    refine (left_ok hi hl H).mono ?_
    rintro e w1 ⟨rfl, n1, rfl⟩
    have H1 := H.drewN n1
    generalize w.drewN n1 = w1 at H1 ⊢
    go_wp2_with fail
    refine (HW.out _).mono ?_
    rintro e w2 ⟨rfl, rfl⟩
    go_wp2_with fail
    refine (HW.out _).mono ?_
    rintro e w2 ⟨rfl, rfl⟩
    go_wp2_with fail
    refine (get_ok (by omega) HIK.out hl H1).mono ?_
    rintro e w2 ⟨rfl, H2⟩
    rw [← HV.out]
    go_wp2_with fail
    go_ret2
    exact ⟨rfl, H2⟩

end Go.Proofs.Ytbhpcpcpccmacaa

namespace Go.Proofs.Ytbhpcpcpccmacaa
open Go.RowKit

theorem ret_str {a b : ByteArray} (h : a = b) : Ending.returned (.string a) = .returned (.string b) := by rw [h]

end Go.Proofs.Ytbhpcpcpccmacaa

namespace Go.Proofs.Ytbhpcpcpccmacaa
open Go.RowKit

end Go.Proofs.Ytbhpcpcpccmacaa

namespace Go.Proofs.Ytbhpcpcpccmacaa
open Go.RowKit

theorem ret_u64 {a b : Int} (h : a = b) : Ending.returned (.int .u64 a) = .returned (.int .u64 b) := by rw [h]

/-- Zig and Zag, of whole numbers. -/
def zigZ (n : Int) : Int := if 0 ≤ n then 2 * n else -2 * n - 1
def zagZ (u : Int) : Int := if u % 2 = 0 then u / 2 else -(u / 2) - 1

theorem zag_zig (n : Int) : zagZ (zigZ n) = n := by unfold zagZ zigZ; split <;> split <;> omega
theorem zig_zag {u : Int} (h : 0 ≤ u) : zigZ (zagZ u) = u := by unfold zagZ zigZ; split <;> split <;> omega
theorem zigZ_range {n : Int} (h0 : -9223372036854775808 ≤ n) (h1 : n ≤ 9223372036854775807) : 0 ≤ zigZ n ∧ zigZ n ≤ 18446744073709551615 := by unfold zigZ; split <;> omega
theorem zagZ_range {u : Int} (h0 : 0 ≤ u) (h1 : u ≤ 18446744073709551615) : -9223372036854775808 ≤ zagZ u ∧ zagZ u ≤ 9223372036854775807 := by unfold zagZ; split <;> omega

theorem zig_pos {n : Int} (h0 : 0 ≤ n) (h1 : n ≤ 9223372036854775807) : bits BinOp.xor IntKind.u64 (n * 2) (n / 9223372036854775808) = zigZ n := by
  obtain ⟨m, rfl⟩ := Int.eq_ofNat_of_zero_le h0
  have e1 : (m : Int) / 9223372036854775808 = ((0 : Nat) : Int) := by omega
  have e2 : (m : Int) * 2 = ((m * 2 : Nat) : Int) := by omega
  rw [e1, e2, bits_xor_u64_nat _ _ (by omega) (by omega), Nat.xor_zero]
  unfold zigZ; rw [if_pos h0]; omega

theorem zig_neg {n : Int} (h0 : n < 0) (h1 : -9223372036854775808 ≤ n) : bits BinOp.xor IntKind.u64 (IntKind.u64.wrap (IntKind.u64.wrap n * 2)) (IntKind.u64.wrap (n / 9223372036854775808)) = zigZ n := by
  have w64 : ∀ x : Int, IntKind.u64.wrap x = x % 18446744073709551616 := fun x => by simp [IntKind.wrap, IntKind.bits, IntKind.signed]
  obtain ⟨m, hm⟩ : ∃ m : Nat, (m : Int) = 2 * n + 18446744073709551616 := ⟨(2 * n + 18446744073709551616).toNat, by omega⟩
  have e1 : IntKind.u64.wrap (IntKind.u64.wrap n * 2) = (m : Int) := by rw [w64, w64]; omega
  have e2 : IntKind.u64.wrap (n / 9223372036854775808) = ((18446744073709551615 : Nat) : Int) := by rw [w64]; omega
  have h64 := two64
  rw [e1, e2, bits_xor_u64_nat _ _ (by omega) (by omega), Nat.xor_comm]
  have hx := Lib.xor_ones64 m (by omega)
  rw [h64] at hx
  have e3 : (18446744073709551616 - 1 : Nat) = 18446744073709551615 := rfl
  rw [e3] at hx
  rw [hx]
  unfold zigZ; rw [if_neg (by omega)]; omega

set_option maxHeartbeats 400000 in
theorem zig_calls {n : Int} (h0 : -9223372036854775808 ≤ n) (h1 : n ≤ 9223372036854775807) {w : World} :
    Calls Try.prog 43 #[.int .i64 n] w fun e w' => e = .returned (.int .u64 (zigZ n)) ∧ w = w' := by
  by_cases h : 0 ≤ n
  · have HZ := Lib.hid (zig_pos h h1)
    go_enter Try.func43, Try.ntmps43
    go_wp2
    go_ret
    exact ⟨ret_u64 HZ.out, rfl⟩
  · have HZ := Lib.hid (zig_neg (by omega) h0)
    have h' : n < 0 := by omega
    clear h
    go_enter Try.func43, Try.ntmps43
    go_wp2
    go_ret
    exact ⟨ret_u64 HZ.out, rfl⟩

theorem xor_comm_i64 (a b : Int) : bits BinOp.xor IntKind.i64 a b = bits BinOp.xor IntKind.i64 b a := by
  simp only [bits]
  rw [BitVec.xor_comm]

theorem zag_odd {u : Int} (h0 : 0 ≤ u) (h1 : u ≤ 18446744073709551615) (hm : u % 2 = 1) : bits BinOp.xor IntKind.i64 (u / 2) (wrap64 (-wrap64 (bits BinOp.and IntKind.u64 u 1))) = zagZ u := by
  rw [and_one_u64 u h0 h1, hm]
  have e1 : wrap64 (-wrap64 1) = -1 := by unfold wrap64; omega
  rw [e1, xor_comm_i64]
  obtain ⟨m, hm2⟩ : ∃ m : Nat, (m : Int) = u / 2 := ⟨(u / 2).toNat, by omega⟩
  rw [← hm2, Lib.i64_not m (by omega)]
  unfold zagZ
  rw [if_neg (by omega), hm2]

theorem xor_zero_i64 (m : Nat) (h : m < 9223372036854775808) : bits BinOp.xor IntKind.i64 (m : Int) 0 = (m : Int) := by
  have h1 : (BitVec.ofInt 64 (m : Int)).toNat = m := by
    rw [BitVec.ofInt_natCast, BitVec.toNat_ofNat]; exact Nat.mod_eq_of_lt (by omega)
  show IntKind.i64.wrap ((BitVec.ofInt 64 (m : Int) ^^^ BitVec.ofInt 64 0).toNat : Int) = _
  have e : BitVec.ofInt 64 0 = 0#64 := rfl
  rw [e, BitVec.xor_zero, h1, IntKind.wrap_i64]
  omega

theorem zag_even {u : Int} (h0 : 0 ≤ u) (h1 : u ≤ 18446744073709551615) (hm : u % 2 = 0) : bits BinOp.xor IntKind.i64 (u / 2) (wrap64 (-wrap64 (bits BinOp.and IntKind.u64 u 1))) = zagZ u := by
  rw [and_one_u64 u h0 h1, hm]
  have e1 : wrap64 (-wrap64 0) = 0 := by unfold wrap64; omega
  rw [e1]
  obtain ⟨m, hm2⟩ : ∃ m : Nat, (m : Int) = u / 2 := ⟨(u / 2).toNat, by omega⟩
  rw [← hm2, xor_zero_i64 m (by omega)]
  unfold zagZ
  rw [if_pos hm, hm2]

set_option maxHeartbeats 400000 in
theorem zag_calls {u : Int} (h0 : 0 ≤ u) (h1 : u ≤ 18446744073709551615) {w : World} :
    Calls Try.prog 64 #[.int .u64 u] w fun e w' => e = .returned (.int .i64 (zagZ u)) ∧ w = w' := by
  have HZ : Hid (bits BinOp.xor IntKind.i64 (u / 2) (wrap64 (-wrap64 (bits BinOp.and IntKind.u64 u 1))) = zagZ u) := by
    rcases (by omega : u % 2 = 0 ∨ u % 2 = 1) with h | h
    · exact Lib.hid (zag_even h0 h1 h)
    · exact Lib.hid (zag_odd h0 h1 h)
  go_enter Try.func64, Try.ntmps64
  go_wp2
  go_ret
  exact ⟨ret_i64 HZ.out, rfl⟩

end Go.Proofs.Ytbhpcpcpccmacaa
