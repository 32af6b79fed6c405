import Derived.Test.YtoejgfbeemokcaaLaw1d
namespace Go.Proofs.Ytoejgfbeemokcaa
open Go.RowKit

/-- The bits of items. -/
def itemBits (its : List (Int × Int)) : List Bool := its.flatMap fun x => valBits x.1.toNat x.2.toNat

theorem itemBits_take {its : List (Int × Int)} {k : Nat} (h : k < its.length) : itemBits (its.take (k + 1)) = itemBits (its.take k) ++ valBits its[k].1.toNat its[k].2.toNat := by
  unfold itemBits
  rw [List.take_succ_eq_append_getElem h, List.flatMap_append]
  simp only [List.flatMap_cons, List.flatMap_nil, List.append_nil]

theorem itemBits_len {its : List (Int × Int)} (h : ∀ x ∈ its, okItem x) : (itemBits its).length ≤ 64 * its.length := by
  induction its with
  | nil => simp [itemBits]
  | cons x its ih =>
    have h1 := h x (by simp)
    have h2 := ih fun y hy => h y (by simp [hy])
    have e : itemBits (x :: its) = valBits x.1.toNat x.2.toNat ++ itemBits its := rfl
    rw [e, List.length_append, valBits_length, List.length_cons]
    have : x.2.toNat ≤ 64 := by have := h1.2.1; omega
    omega

set_option maxRecDepth 100000 in
set_option maxHeartbeats 2000000 in
theorem lput_calls {v : Value} {its : List (Int × Int)} {b : Nat} {l : List Bool} {R : List HP} {w : World} (hlen : its.length ≤ 60) (hl : l.length ≤ 16777216) (hok : ∀ x ∈ its, okItem x) (hwf : ∀ x ∈ its, (Lit.int .u64 x.1).wf = true ∧ (Lit.int .i64 x.2).wf = true)
    (hrd : Reads R v its.length 2 (itemCells its)) (H : Sep w (Wr b l :: R)) :
    Calls Try.prog 34 #[.pointer (some ⟨b, 0, none⟩), v] w fun e w' => e = .returned (.tuple #[]) ∧ Sep w' (Wr b (l ++ itemBits its) :: R) := by
  obtain ⟨a, cap, rfl⟩ := (hrd w H.tail).form
  have HRD := Lib.hid hrd; clear hrd
  have HWF := Lib.hid hwf; clear hwf
  have HOK := Lib.hid hok; clear hok
  go_enter Try.func34, Try.ntmps34
  go_wp2
  go_loopw [4] (fun i wr => ∃ k : Nat, k ≤ its.length ∧ i = .int .i64 (k : Int) ∧ Sep wr (Wr b (l ++ itemBits (its.take k)) :: R)) (fun i _ => its.length - (intOf i).toNat)
  case atStart => exact ⟨0, by omega, rfl, by simpa [itemBits] using H⟩
  case round =>
    clear H
    obtain ⟨k, hk, rfl, Hr⟩ := hrel
    by_cases hlt : k < its.length
    · have hrw := HRD.out _ Hr.tail
      obtain ⟨g, o, d, he⟩ := hrw.open (by omega)
      simp only [Value.slice.injEq, true_and] at he
      obtain ⟨rfl, rfl⟩ := he
      have hcells := flat2_get .u64 .i64 its k hlt
      have k0 := hrw.cell (2 * k) hcells.1
      have k1 := hrw.cell (2 * k + 1) hcells.2
      rw [show o + 2 * k = o + k * 2 from by omega] at k0
      rw [show o + (2 * k + 1) = o + k * 2 + 1 from by omega] at k1
      have hv := wf_u64 (HWF.out _ (List.getElem_mem hlt)).1
      have hx := HOK.out _ (List.getElem_mem hlt)
      have hs : l ++ itemBits (its.take (k + 1)) = (l ++ itemBits (its.take k)) ++ valBits its[k].1.toNat its[k].2.toNat := by rw [itemBits_take hlt, List.append_assoc]
      have hbl := itemBits_len (its := its.take k) fun x hx => HOK.out x (List.mem_of_mem_take hx)
      rw [List.length_take] at hbl
      have hbl2 : (l ++ itemBits (its.take k)).length ≤ 16781056 := by rw [List.length_append]; omega
      clear hcells hrw hbl
      generalize its[k] = x at *
      obtain ⟨xv, xn⟩ := x
      simp only at k0 k1 hv hs
      have hv0 : 0 ≤ xv := hv.1
      have c3 : 0 ≤ xn := hx.1
      have c4 : xn ≤ 64 := hx.2.1
      have c5 : Hid (xv.toNat < 2 ^ xn.toNat) := Lib.hid hx.2.2
      have HS := Lib.hid hs
      clear hv hx hs
      have hki : (k : Int) < (its.length : Int) := by omega
      generalize l ++ itemBits (its.take k) = m at Hr hbl2 HS
      go_wp2
      (refine wp_region_still_tail 11 (by kernel_rfl) (by kernel_rfl) ?_; simp only [List.take_succ_cons, List.take_zero, List.drop_succ_cons, List.drop_zero]; (repeat (refine wpStill_step (fun K hK => ?_); go_simp; (try go_bits); refine hK _ ?_; clear hK K)); try refine wpStill_nil ?_)
      change wpList _ _ _ _ _ (World.drew wr)
      have Hr2 := Hr.drew
      go_wp2_with fail
      refine (put_int hv0 c3 c4 c5.out (by omega) Hr2).mono ?_
      rintro e w1 ⟨rfl, H1⟩
      go_wp2_with fail
      go_roundw
      case rel => exact ⟨k + 1, by omega, by go_num, by rw [HS.out]; exact H1⟩
      case measure => simp [intOf]; omega
    · go_wp2
      go_end0
      have e : k = its.length := by omega
      subst e
      rw [List.take_length] at Hr
      exact ⟨rfl, Hr⟩

end Go.Proofs.Ytoejgfbeemokcaa
