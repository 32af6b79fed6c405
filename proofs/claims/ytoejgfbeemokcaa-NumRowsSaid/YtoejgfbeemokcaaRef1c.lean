import Derived.Test.YtoejgfbeemokcaaRef1b
namespace Go.Proofs.Ytoejgfbeemokcaa
open Go.RowKit

theorem u8v_get (l : List Nat) (i : Nat) (h : i < l.length) : (l.map u8v)[i]? = some (.int .u8 (l[i] : Int)) := by
  simp [u8v, List.getElem?_eq_getElem h]

theorem take_succ_eq {xs ys : List Nat} {k : Nat} (h1 : k < xs.length) (h2 : k < ys.length) (h : xs.take k = ys.take k) (e : xs[k] = ys[k]) : xs.take (k + 1) = ys.take (k + 1) := by
  rw [List.take_succ_eq_append_getElem h1, List.take_succ_eq_append_getElem h2, h, e]

set_option maxHeartbeats 1000000 in
theorem same_calls {va vb : Value} {xs ys : List Nat} {w : World} (hx : xs.length ≤ 1099511627776) (ha : RdS w va xs.length 1 (xs.map u8v)) (hb : RdS w vb ys.length 1 (ys.map u8v)) :
    Calls Try.prog 24 #[va, vb] w (Drew (.bool (decide (xs = ys))) w) := by
  obtain ⟨a1, c1, rfl⟩ := ha.form
  obtain ⟨a2, c2, rfl⟩ := hb.form
  by_cases hlen : xs.length = ys.length
  · have hl : ((xs.length : Int) != (ys.length : Int)) = false := by rw [bne_eq_false_iff_eq]; omega
    have HL := Lib.hid hlen; clear hlen
    go_enter Try.func24, Try.ntmps24
    go_wp2
    go_loopw [13] (fun i wr => ∃ k m : Nat, k ≤ xs.length ∧ i = .int .i64 k ∧ wr = w.drewN m ∧ Hid (xs.take k = ys.take k)) (fun i _ => xs.length - (intOf i).toNat)
    case atStart => exact ⟨0, 0, by omega, rfl, rfl, rfl⟩
    case round =>
      obtain ⟨k, m, hk, rfl, rfl, hpre⟩ := hrel
      by_cases hlt : k < xs.length
      · have hlt2 : k < ys.length := by have := HL.out; omega
        obtain ⟨g1, o1, d1, he⟩ := ha.open (by omega)
        simp only [Value.slice.injEq, true_and] at he
        obtain ⟨rfl, rfl⟩ := he
        obtain ⟨g2, o2, d2, he⟩ := hb.open (by omega)
        simp only [Value.slice.injEq, true_and] at he
        obtain ⟨rfl, rfl⟩ := he
        have k1 : w.cell? ⟨g1, o1 + k, none⟩ = some (.int .u8 (xs[k] : Int)) := ha.cell _ (u8v_get _ _ hlt)
        have k2 : w.cell? ⟨g2, o2 + k, none⟩ = some (.int .u8 (ys[k] : Int)) := hb.cell _ (u8v_get _ _ hlt2)
        by_cases heq : xs[k] = ys[k]
        · have hne : ((xs[k] : Int) != (ys[k] : Int)) = false := by rw [bne_eq_false_iff_eq]; omega
          have HE := Lib.hid heq; clear heq
          generalize hA : xs[k] = A at *
          generalize hB : ys[k] = B at *
          have hi1 : (k : Int) < (xs.length : Int) := by omega
          have hi2 : (k : Int) < (ys.length : Int) := by omega
          have HA := Lib.hid hA
          have HB := Lib.hid hB
          clear hA hB
          go_wp2
          (refine wp_region_quiet_lit (by kernel_rfl) (by kernel_rfl) ?_; (repeat (first | go_big_quiet_skip | (go_big_quiet_want; go_big_quiet_op; (try go_bits); first | go_big_quiet_on | go_big_quiet_call (fail)))); refine wpQuiet_nil ?_; intro _ hw'; obtain ⟨nq, hw''⟩ := hw'; subst hw'')
          rw [World.drewN_drewN]
          go_wp2
          go_roundw
          case rel => exact ⟨k + 1, m + nq, by omega, by go_num, rfl, Lib.hid (take_succ_eq hlt hlt2 hpre.out (HA.out.trans (HE.out.trans HB.out.symm)))⟩
          case measure => simp [intOf]; omega
        · have hne : ((xs[k] : Int) != (ys[k] : Int)) = true := by rw [bne_iff_ne]; omega
          have HE := Lib.hid heq; clear heq
          generalize hA : xs[k] = A at *
          generalize hB : ys[k] = B at *
          have hi1 : (k : Int) < (xs.length : Int) := by omega
          have hi2 : (k : Int) < (ys.length : Int) := by omega
          have HA := Lib.hid hA
          have HB := Lib.hid hB
          clear hA hB
          go_wp2
          (refine wp_region_quiet_lit (by kernel_rfl) (by kernel_rfl) ?_; (repeat (first | go_big_quiet_skip | (go_big_quiet_want; go_big_quiet_op; (try go_bits); first | go_big_quiet_on | go_big_quiet_call (fail)))); refine wpQuiet_nil ?_; intro _ hw'; obtain ⟨nq, hw''⟩ := hw'; subst hw'')
          rw [World.drewN_drewN]
          go_wp2
          go_ret
          refine ⟨ret_bool ?_, _, rfl⟩
          have : xs ≠ ys := by
            intro e
            subst e
            exact HE.out (HA.out.symm.trans HB.out)
          exact (decide_eq_false this).symm
      · go_wp2
        go_ret
        refine ⟨ret_bool ?_, m, rfl⟩
        have h1 := hpre.out
        have h2 := HL.out
        rw [List.take_of_length_le (by omega), List.take_of_length_le (by omega)] at h1
        exact (decide_eq_true h1).symm
  · have hl : ((xs.length : Int) != (ys.length : Int)) = true := by rw [bne_iff_ne]; omega
    have hne : xs ≠ ys := fun e => hlen (by rw [e])
    have HL := Lib.hid hne; clear hlen hne
    go_enter Try.func24, Try.ntmps24
    go_wp2
    go_ret
    exact ⟨ret_bool (decide_eq_false HL.out).symm, 0, rfl⟩

end Go.Proofs.Ytoejgfbeemokcaa
