import Derived.Test.YtoejgfbeemokcaaLaw1
import Derived.Test.YtoejgfbeemokcaaItems
import Derived.Test.YtoejgfbeemokcaaGet
import Derived.Deep.LoopGhost
namespace Go.Proofs.Ytoejgfbeemokcaa
open Go.RowKit

/-- May an item be written? -/
def okItem (x : Int × Int) : Prop := 0 ≤ x.2 ∧ x.2 ≤ 64 ∧ x.1.toNat < 2 ^ x.2.toNat
instance (x : Int × Int) : Decidable (okItem x) := by unfold okItem; infer_instance

def itemCells (its : List (Int × Int)) : List Value := its.flatMap fun x => [.int .u64 x.1, .int .i64 x.2]

theorem fits_int {v n : Int} (hv0 : 0 ≤ v) (hv : v ≤ 18446744073709551615) (hn0 : 0 ≤ n) (hn : n ≤ 64) {w : World} :
    Calls Try.prog 20 #[.int .u64 v, .int .i64 n] w fun e w' => e = .returned (.bool (decide (v.toNat < 2 ^ n.toNat))) ∧ w' = w := by
  have h64 : (2 : Nat) ^ 64 = 18446744073709551616 := by decide +kernel
  have h := fits_calls (v := v.toNat) (n := n.toNat) (by omega) (by omega) (w := w)
  rw [Int.toNat_of_nonneg hv0, Int.toNat_of_nonneg hn0] at h
  exact h.mono fun _ _ ⟨a, b⟩ => ⟨a, b.symm⟩

theorem take_all_succ {its : List (Int × Int)} {k : Nat} (h : k < its.length) (h1 : ∀ x ∈ its.take k, okItem x) (h2 : okItem its[k]) : ∀ x ∈ its.take (k + 1), okItem x := by
  rw [List.take_succ_eq_append_getElem h]
  intro x hx
  rcases List.mem_append.1 hx with hx | hx
  · exact h1 x hx
  · simp at hx; rw [hx]; exact h2

set_option maxRecDepth 100000 in
set_option maxHeartbeats 2000000 in
theorem lfits_calls {v : Value} {its : List (Int × Int)} {w : World} (hlen : its.length ≤ 9223372036854775807) (hwf : ∀ x ∈ its, (Lit.int .u64 x.1).wf = true ∧ (Lit.int .i64 x.2).wf = true) (hrd : RdS w v its.length 2 (itemCells its)) :
    Calls Try.prog 33 #[v] w (Drew (.bool (decide ((∀ x ∈ its, okItem x) ∧ its.length ≤ 60))) w) := by
  obtain ⟨a, cap, rfl⟩ := hrd.form
  have HRD := Lib.hid hrd; clear hrd
  have HWF := Lib.hid hwf; clear hwf
  go_enter Try.func33, Try.ntmps33
  go_wp2
  go_loopw [3] (fun i wr => ∃ k m : Nat, k ≤ its.length ∧ i = .int .i64 (k : Int) ∧ wr = w.drewN m ∧ Hid (∀ x ∈ its.take k, okItem x)) (fun i _ => its.length - (intOf i).toNat)
  case atStart => exact ⟨0, 0, by omega, rfl, rfl, Lib.hid (by simp)⟩
  case round =>
    obtain ⟨k, m, hk, rfl, rfl, hall⟩ := hrel
    by_cases hlt : k < its.length
    · obtain ⟨g, o, d, he⟩ := HRD.out.open (by omega)
      simp only [Value.slice.injEq, true_and] at he
      obtain ⟨rfl, rfl⟩ := he
      have hcells := flat2_get .u64 .i64 its k hlt
      have k0 := HRD.out.cell (2 * k) hcells.1
      have k1 := HRD.out.cell (2 * k + 1) hcells.2
      rw [show o + 2 * k = o + k * 2 from by omega] at k0
      rw [show o + (2 * k + 1) = o + k * 2 + 1 from by omega] at k1
      have hw := HWF.out _ (List.getElem_mem hlt)
      have hv := wf_u64 hw.1
      have hn := wf_i64 hw.2
      have hok : okItem its[k] → Hid (∀ x ∈ its.take (k + 1), okItem x) := fun h => Lib.hid (take_all_succ hlt hall.out h)
      have hno : ¬ okItem its[k] → decide ((∀ x ∈ its, okItem x) ∧ its.length ≤ 60) = false := fun h => decide_eq_false fun h2 => h (h2.1 _ (List.getElem_mem hlt))
      clear hcells hw
      generalize its[k] = x at *
      obtain ⟨xv, xn⟩ := x
      simp only at k0 k1 hv hn
      have hv0 : 0 ≤ xv := hv.1
      have hv1 : xv ≤ 18446744073709551615 := hv.2
      clear hv
      have HOK := Lib.hid hok
      have HNO := Lib.hid hno
      clear hok hno
      have hki : (k : Int) < (its.length : Int) := by omega
      by_cases c1 : xn < 0
      · go_wp2
        (refine wp_region_quiet_lit (by kernel_rfl) (by kernel_rfl) ?_; (repeat (first | go_big_quiet_skip | (go_big_quiet_want; go_big_quiet_op; (try go_bits); first | go_big_quiet_on | go_big_quiet_call (fail)))); refine wpQuiet_nil ?_; intro _ hw'; obtain ⟨nq, hw''⟩ := hw'; subst hw'')
        rw [World.drewN_drewN]
        go_wp2
        go_ret
        exact ⟨ret_bool (HNO.out (fun h => by have h1 : 0 ≤ xn := h.1; have h2 : xn ≤ 64 := h.2.1; omega)).symm, _, rfl⟩
      · have d1 : decide (xn < 0) = false := decide_eq_false c1
        by_cases c2 : 64 < xn
        · have d2 : decide (64 < xn) = true := decide_eq_true c2
          go_wp2
          (refine wp_region_quiet_lit (by kernel_rfl) (by kernel_rfl) ?_; (repeat (first | go_big_quiet_skip | (go_big_quiet_want; go_big_quiet_op; (try go_bits); first | go_big_quiet_on | go_big_quiet_call (fail)))); refine wpQuiet_nil ?_; intro _ hw'; obtain ⟨nq, hw''⟩ := hw'; subst hw'')
          rw [World.drewN_drewN]
          go_wp2
          go_ret
          exact ⟨ret_bool (HNO.out (fun h => by have h1 : 0 ≤ xn := h.1; have h2 : xn ≤ 64 := h.2.1; omega)).symm, _, rfl⟩
        · have c3 : 0 ≤ xn := by omega
          have c4 : xn ≤ 64 := by omega
          have d2 : decide (64 < xn) = false := decide_eq_false c2
          by_cases c5 : xv.toNat < 2 ^ xn.toNat
          · have HF := Lib.hid (fun w' => by have h := fits_int (w := w') hv0 hv1 c3 c4; rw [decide_eq_true c5] at h; exact h : ∀ w', Calls Try.prog 20 #[.int .u64 xv, .int .i64 xn] w' fun e w'' => e = .returned (.bool true) ∧ w'' = w')
            have HOK2 := Lib.hid (HOK.out ⟨c3, c4, c5⟩)
            clear c5
            go_wp2
            (refine wp_region_quiet_lit (by kernel_rfl) (by kernel_rfl) ?_; (repeat (first | go_big_quiet_skip | (go_big_quiet_want; go_big_quiet_op; (try go_bits); first | go_big_quiet_on | go_big_quiet_call ((go_at_call 20; exact (HF.out _).mono fun _ _ h => ⟨h.1, _, h.2⟩))))); refine wpQuiet_nil ?_; intro _ hw'; obtain ⟨nq, hw''⟩ := hw'; subst hw'')
            rw [World.drewN_drewN]
            go_wp2
            go_roundw
            case rel => exact ⟨k + 1, m + nq, by omega, by go_num, rfl, HOK2.out⟩
            case measure => simp [intOf]; omega
          · have HF := Lib.hid (fun w' => by have h := fits_int (w := w') hv0 hv1 c3 c4; rw [decide_eq_false c5] at h; exact h : ∀ w', Calls Try.prog 20 #[.int .u64 xv, .int .i64 xn] w' fun e w'' => e = .returned (.bool false) ∧ w'' = w')
            have HN := Lib.hid (HNO.out fun h => c5 h.2.2)
            clear c5
            go_wp2
            (refine wp_region_quiet_lit (by kernel_rfl) (by kernel_rfl) ?_; (repeat (first | go_big_quiet_skip | (go_big_quiet_want; go_big_quiet_op; (try go_bits); first | go_big_quiet_on | go_big_quiet_call ((go_at_call 20; exact (HF.out _).mono fun _ _ h => ⟨h.1, _, h.2⟩))))); refine wpQuiet_nil ?_; intro _ hw'; obtain ⟨nq, hw''⟩ := hw'; subst hw'')
            rw [World.drewN_drewN]
            go_wp2
            go_ret
            exact ⟨ret_bool HN.out.symm, _, rfl⟩
    · go_wp2
      go_ret
      have e : k = its.length := by omega
      subst e
      have h := hall.out
      rw [List.take_length] at h
      refine ⟨ret_bool ?_, m, rfl⟩
      by_cases c : its.length ≤ 60
      · rw [decide_eq_true (⟨h, c⟩ : (∀ x ∈ its, okItem x) ∧ its.length ≤ 60)]; simp; omega
      · rw [decide_eq_false (fun h2 => c h2.2 : ¬ ((∀ x ∈ its, okItem x) ∧ its.length ≤ 60))]; simp; omega

end Go.Proofs.Ytoejgfbeemokcaa
