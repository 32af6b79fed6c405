import Derived.Test.YtmihlbecmagmbaaBits2
import Derived.Test.YtmihlbecmagmbaaSepLaws2
namespace Go.Proofs.Ytmihlbecmagmbaa
open Go.RowKit

set_option maxHeartbeats 400000 in
theorem nr_range (v : Value) (n : Int) (hn : n < 0 ∨ 33554432 < n) {w : World} :
    Calls Try.prog 32 #[v, .int .i64 n] w fun e w' => e = .returned (.tuple #[.pointer none, .int .i64 2]) ∧ w = w' := by
  rcases hn with hn | hn
  · go_enter Try.func32, Try.ntmps32
    go_wp2
    go_ret2
    exact ⟨rfl, rfl⟩
  · have h0 : ¬ n < 0 := by omega
    go_enter Try.func32, Try.ntmps32
    go_wp2
    go_ret2
    exact ⟨rfl, rfl⟩

set_option maxHeartbeats 400000 in
theorem nr_end (a : Option Addr) (c m n : Nat) (hn : n ≤ 33554432) (hm : m < (n + 7) / 8) {w : World} :
    Calls Try.prog 32 #[.slice a m c, .int .i64 (n : Int)] w fun e w' => e = .returned (.tuple #[.pointer none, .int .i64 4]) ∧ w = w' := by
  have h1 : (m : Int) < ((n : Int) + 7) / 8 := by omega
  go_enter Try.func32, Try.ntmps32
  go_wp2
  go_ret2
  exact ⟨rfl, rfl⟩

set_option maxHeartbeats 400000 in
theorem nr_more (a : Option Addr) (c m n : Nat) (hn : n ≤ 33554432) (hm : (n + 7) / 8 < m) {w : World} :
    Calls Try.prog 32 #[.slice a m c, .int .i64 (n : Int)] w fun e w' => e = .returned (.tuple #[.pointer none, .int .i64 5]) ∧ w = w' := by
  have h1 : ((n : Int) + 7) / 8 < (m : Int) := by omega
  go_enter Try.func32, Try.ntmps32
  go_wp2
  go_ret2
  exact ⟨rfl, rfl⟩

/-- The last byte has a bit that is not asked for. -/
theorem nr_form (a : Addr) (c m n x : Nat) (hn : n ≤ 33554432) (hm : m = (n + 7) / 8) (h8 : n % 8 ≠ 0) {w : World} (g o : Nat) (ha : a = ⟨g, o, none⟩) (hc : w.cell? ⟨g, o + (m - 1), none⟩ = some (.int .u8 (x : Int)))
    (hx : (((x : Int) * 2 ^ (n % 8) % 256) != 0) = true) :
    Calls Try.prog 32 #[.slice (some a) m c, .int .i64 (n : Int)] w fun e w' => e = .returned (.tuple #[.pointer none, .int .i64 3]) ∧ w = w' := by
  subst ha
  have h1 : ((n : Int) + 7) / 8 = (m : Int) := by omega
  have h2 : (((n : Int) % 8) != 0) = true := by rw [bne_iff_ne]; omega
  have h3 : 1 ≤ m := by omega
  have hm2 : m ≤ 4194304 := by omega
  clear h8 hm
  go_enter Try.func32, Try.ntmps32
  go_wp2
  go_ret2
  exact ⟨rfl, rfl⟩

theorem nr_end2 {l : List Bool} {R : List HP} {w' : World} {a' : Option Addr} {cap' : Nat} (H' : Sep w' (HP.row 5 1 (.slice a' ((pk l).length) cap') ((pk l).length) ((pk l).map u8v) :: R)) :
    Gives (fun r w' => ∃ b, r = .tuple #[.pointer (some ⟨b, 0, none⟩), .int .i64 0] ∧ Sep w' (Rdr b l 0 :: R))
      (.returned (.tuple #[.pointer (some ⟨w'.heap.size, 0, none⟩), .int .i64 0])) (w'.alloc (.cells #[.slice a' ((pk l).length) cap', .int .i64 (l.length : Int), .int .i64 0] 87)) := by
  refine ⟨_, rfl, _, rfl, ?_⟩
  exact Rdr.shut (i := 0) (H'.alloc _ _)

set_option maxHeartbeats 400000 in
theorem nr_ok {v : Value} {l : List Bool} {R : List HP} {w : World} (hl : l.length ≤ 33554432) (hrd : RdS w v (pk l).length 1 ((pk l).map u8v)) (H : Sep w R) :
    Calls Try.prog 32 #[v, .int .i64 (l.length : Int)] w (Gives fun r w' => ∃ b, r = .tuple #[.pointer (some ⟨b, 0, none⟩), .int .i64 0] ∧ Sep w' (Rdr b l 0 :: R)) := by
  have hpl := pk_length l
  by_cases h8 : l.length % 8 = 0
  · obtain ⟨a, cap, rfl⟩ := hrd.form
    have h1 : ((l.length : Int) + 7) / 8 = ((pk l).length : Int) := by omega
    have h2 : (((l.length : Int) % 8) != 0) = false := by rw [bne_eq_false_iff_eq]; omega
    have h63 : (pk l).length ≤ maxLen := by rw [hpl]; unfold maxLen; omega
    have hby : ((pk l).length) * 1 ≤ 140737488355328 := by rw [hpl]; omega
    clear hpl h8
    go_enter Try.func32, Try.ntmps32
    go_wp2_with ((at_builtin; go_must (refine wpList_append_copy rfl _ (.tmp 42) 40 rfl 5 (.int .u8 0) 1 1 Try.underlying40 info_u8 rfl (by decide) rfl H (.slice a (pk l).length cap) _ _ rfl hrd (u8v_one _) h63 hby ?_); intro a' cap' w' H'))
    go_ret2
    exact nr_end2 H'
  · have hne : (pk l).length ≠ 0 := by rw [hpl]; omega
    obtain ⟨g, o, cap, rfl⟩ := hrd.open hne
    have h1 : ((l.length : Int) + 7) / 8 = ((pk l).length : Int) := by omega
    have h2 : (((l.length : Int) % 8) != 0) = true := by rw [bne_iff_ne]; omega
    have h63 : (pk l).length ≤ maxLen := by rw [hpl]; unfold maxLen; omega
    have hby : ((pk l).length) * 1 ≤ 140737488355328 := by rw [hpl]; omega
    have hc : w.cell? ⟨g, o + ((pk l).length - 1), none⟩ = some (.int .u8 (byteAt l (l.length / 8) : Int)) := hrd.cell _ (by
      have e : (pk l).length - 1 = l.length / 8 := by omega
      rw [e, pk_full l h8]; simp [pkN, u8v])
    have hx : (((byteAt l (l.length / 8) : Int) * 2 ^ (l.length % 8) % 256) != 0) = false := by
      rw [bne_eq_false_iff_eq]
      have e : ((byteAt l (l.length / 8) : Int) * 2 ^ (l.length % 8) % 256) = ((byteAt l (l.length / 8) * 2 ^ (l.length % 8) % 256 : Nat) : Int) := by rw [Int.natCast_emod, Int.natCast_mul, Int.natCast_pow]; rfl
      rw [e, byteAt_shl l h8]; rfl
    have h3 : 1 ≤ (pk l).length := by omega
    have h4 : (pk l).length ≤ 4194304 := by omega
    clear hpl h8 hne
    go_enter Try.func32, Try.ntmps32
    go_wp2_with ((at_builtin; go_must (refine wpList_append_copy rfl _ (.tmp 42) 40 rfl 5 (.int .u8 0) 1 1 Try.underlying40 info_u8 rfl (by decide) rfl H (.slice (some ⟨g, o, none⟩) (pk l).length cap) _ _ rfl hrd (u8v_one _) h63 hby ?_); intro a' cap' w' H'))
    go_ret2
    exact nr_end2 H'

/-! ## Reading -/

set_option maxHeartbeats 400000 in
theorem get_nil (n : Int) {w : World} : Calls Try.prog 55 #[.pointer none, .int .i64 n] w fun e w' => e = .returned (.tuple #[.int .u64 0, .int .i64 1]) ∧ w = w' := by
  go_enter Try.func55, Try.ntmps55
  go_wp2
  go_ret2
  exact ⟨rfl, rfl⟩

set_option maxHeartbeats 400000 in
theorem get_range (n : Int) (hn : n < 0 ∨ 64 < n) (b : Nat) {w : World} : Calls Try.prog 55 #[.pointer (some ⟨b, 0, none⟩), .int .i64 n] w fun e w' => e = .returned (.tuple #[.int .u64 0, .int .i64 2]) ∧ w = w' := by
  rcases hn with hn | hn
  · go_enter Try.func55, Try.ntmps55
    go_wp2
    go_ret2
    exact ⟨rfl, rfl⟩
  · have h0 : ¬ n < 0 := by omega
    go_enter Try.func55, Try.ntmps55
    go_wp2
    go_ret2
    exact ⟨rfl, rfl⟩

def Drew (v : Value) (w : World) (e : Ending) (w' : World) : Prop := e = .returned v ∧ ∃ n, w' = w.drewN n

set_option maxHeartbeats 400000 in
theorem get_end {n b i : Nat} {l : List Bool} {R : List HP} {w : World} (hn : n ≤ 64) (hi : i ≤ l.length) (_hl : l.length ≤ 33554432) (he : l.length < i + n) (H : Sep w (Rdr b l i :: R)) :
    Calls Try.prog 55 #[.pointer (some ⟨b, 0, none⟩), .int .i64 (n : Int)] w (Drew (.tuple #[.int .u64 0, .int .i64 4]) w) := by
  obtain ⟨sv, H⟩ := Rdr.open H
  have c1 : w.cell? ⟨b, 1, none⟩ = some (.int .i64 (l.length : Int)) := H.cell 1 rfl
  have c2 : w.cell? ⟨b, 2, none⟩ = some (.int .i64 (i : Int)) := H.cell 2 rfl
  have h1 : (l.length : Int) - (i : Int) < (n : Int) := by omega
  clear H
  go_enter Try.func55, Try.ntmps55
  go_wp2
  (refine wp_region_quiet_lit (by kernel_rfl) (by kernel_rfl) ?_; (repeat (first | go_big_quiet_skip | (go_big_quiet_want; go_big_quiet_op; (try go_bits); first | go_big_quiet_on | go_big_quiet_call (fail)))); refine wpQuiet_nil ?_; intro _ hw'; obtain ⟨nq, hw''⟩ := hw'; subst hw'')
  go_wp2
  go_ret2
  exact ⟨rfl, _, rfl⟩

theorem get_step (l : List Bool) (j V : Nat) (hV : V < 2 ^ 63) : bits BinOp.or IntKind.u64 (IntKind.u64.wrap ((V : Int) * 2)) (IntKind.u64.wrap (bits BinOp.and IntKind.u8 ((byteAt l (j / 8) : Int) / 2 ^ (7 - j % 8)) 1)) = ((2 * V + bit l j : Nat) : Int) := by
  have h63 : (2 : Nat) ^ 63 = 9223372036854775808 := by decide +kernel
  have hb := bit_le l j
  have e1 : (byteAt l (j / 8) : Int) / 2 ^ (7 - j % 8) = ((byteAt l (j / 8) / 2 ^ (7 - j % 8) : Nat) : Int) := by simp
  have e2 : bits BinOp.and IntKind.u8 ((byteAt l (j / 8) : Int) / 2 ^ (7 - j % 8)) 1 = (bit l j : Int) := by
    have hlt := byteAt_lt l (j / 8)
    have hle : byteAt l (j / 8) / 2 ^ (7 - j % 8) ≤ byteAt l (j / 8) := Nat.div_le_self _ _
    rw [e1]
    have h := u8_and_nat (byteAt l (j / 8) / 2 ^ (7 - j % 8)) 1 (by omega) (by omega)
    rw [Nat.and_one_is_mod, byteAt_bit] at h
    exact h
  have e3 : (V : Int) * 2 = ((V * 2 : Nat) : Int) := by simp
  rw [e2, e3, IntWalk.u64_in _ (by omega), IntWalk.u64_in _ (by omega), bits_or_u64_nat _ _ (by omega) (by omega)]
  have h := or_add (V * 2) (bit l j) 0 (by omega) hb
  rw [Nat.pow_zero, Nat.mul_one] at h
  rw [h, Nat.mul_comm]

set_option maxHeartbeats 1000000 in
theorem get_ok {n b i : Nat} {l : List Bool} {R : List HP} {w : World} (hn : n ≤ 64) (hi : i + n ≤ l.length) (hl : l.length ≤ 33554432) (H : Sep w (Rdr b l i :: R)) :
    Calls Try.prog 55 #[.pointer (some ⟨b, 0, none⟩), .int .i64 (n : Int)] w fun e w' => e = .returned (.tuple #[.int .u64 (ofBits ((l.drop i).take n) : Int), .int .i64 0]) ∧ Sep w' (Rdr b l (i + n) :: R) := by
  obtain ⟨sv, H⟩ := Rdr.open H
  have c1 : w.cell? ⟨b, 1, none⟩ = some (.int .i64 (l.length : Int)) := H.cell 1 rfl
  have c2 : w.cell? ⟨b, 2, none⟩ = some (.int .i64 (i : Int)) := H.cell 2 rfl
  have h1 : ¬ (l.length : Int) - (i : Int) < (n : Int) := by omega
  go_enter Try.func55, Try.ntmps55
  go_wp2
  (refine wp_region_quiet_lit (by kernel_rfl) (by kernel_rfl) ?_; (repeat (first | go_big_quiet_skip | (go_big_quiet_want; go_big_quiet_op; (try go_bits); first | go_big_quiet_on | go_big_quiet_call (fail)))); refine wpQuiet_nil ?_; intro _ hw'; obtain ⟨nq, hw''⟩ := hw'; subst hw'')
  go_wp2
  replace H := H.drewN nq
  generalize w.drewN nq = W at *
  clear c1 c2 h1
  go_loopw [6, 30] (fun v i' wr => ∃ k : Nat, k ≤ n ∧ i' = .int .i64 k ∧ v = .int .u64 (ofBits ((l.drop i).take k) : Int) ∧ Sep wr (Rdr b l (i + k) :: R)) (fun _ i' _ => n - (intOf i').toNat)
  case atStart => exact ⟨0, by omega, rfl, rfl, Rdr.shut H⟩
  case round =>
    clear H
    obtain ⟨k, hk, rfl, rfl, Hr⟩ := hrel
    by_cases hlt : k < n
    · obtain ⟨j, hj⟩ : ∃ j, j = i + k := ⟨_, rfl⟩
      rw [← hj] at Hr
      have hjl : j < l.length := by omega
      have hstep : ofBits ((l.drop i).take (k + 1)) = 2 * ofBits ((l.drop i).take k) + bit l j := by
        have hk2 : k < (l.drop i).length := by simp; omega
        rw [List.take_succ_eq_append_getElem hk2, ofBits_snoc]
        congr 1
        simp [bit, ← hj, List.getD]
        rw [List.getElem?_eq_getElem hjl]; rfl
      have hlt2 : ofBits ((l.drop i).take k) < 2 ^ 63 := Nat.lt_of_lt_of_le (ofBits_lt _) (Nat.pow_le_pow_right (by decide) (by simp; omega))
      generalize ofBits ((l.drop i).take k) = V at hstep hlt2 ⊢
      have hv := get_step l j V hlt2
      rw [← hstep] at hv
      obtain ⟨V', hV'⟩ : ∃ V', V' = ofBits ((l.drop i).take (k + 1)) := ⟨_, rfl⟩
      rw [← hV'] at hv
      have HV := Lib.hid hV'; clear hV'
      clear hstep hlt2
      have HJ := Lib.hid hj; clear hj
      obtain ⟨sv, Hr⟩ := Rdr.open Hr
      have hne : (pk l).length ≠ 0 := by rw [pk_length]; omega
      obtain ⟨g, cap, cur, rfl, _, _, _, ht, H4⟩ := Hr.swap.row_open hne
      have hpk : (pk l)[j / 8]? = some (byteAt l (j / 8)) := pkN_getElem? _ _ _ (by omega)
      have r0 : wr.cell? ⟨g, j / 8, none⟩ = some (.int .u8 (byteAt l (j / 8) : Int)) := H4.cell _ (take_get (by simpa using ht) (by simp [hpk, u8v]))
      have c0 : wr.cell? ⟨b, 0, none⟩ = some (.slice (some ⟨g, 0, none⟩) (pk l).length cap) := Hr.cell 0 rfl
      have c2 : wr.cell? ⟨b, 2, none⟩ = some (.int .i64 (j : Int)) := Hr.cell 2 rfl
      have hx1 : (j : Int) / 8 < ((pk l).length : Int) := by rw [pk_length]; omega
      have hx0 : (0 : Int) ≤ (j : Int) / 8 := by omega
      clear H4 ht hne hpk
      go_wp2
      (refine wp_region_quiet_lit (by kernel_rfl) (by kernel_rfl) ?_; (repeat (first | go_big_quiet_skip | (go_big_quiet_want; go_big_quiet_op; (try go_bits); first | go_big_quiet_on | go_big_quiet_call (fail)))); refine wpQuiet_nil ?_; intro _ hw'; obtain ⟨nq, hw''⟩ := hw'; subst hw'')
      replace Hr := Hr.drewN nq
      have c2 : (wr.drewN nq).cell? ⟨b, 2, none⟩ = some (.int .i64 (j : Int)) := Hr.cell 2 rfl
      have f2 := Hr.froz 2
      generalize wr.drewN nq = W at *
      go_wp2
      have HF := Hr.set 2 (.int .i64 ((j : Int) + 1))
      go_roundw
      case rel => exact ⟨k + 1, by omega, by go_num, by rw [HV.out], by
        have e : i + (k + 1) = j + 1 := by have := HJ.out; omega
        rw [e]
        exact Rdr.shut (i := j + 1) HF⟩
      case measure => simp [intOf]; omega
    · go_wp2
      go_ret2
      have e : k = n := by omega
      subst e
      exact ⟨rfl, Hr⟩

end Go.Proofs.Ytmihlbecmagmbaa
