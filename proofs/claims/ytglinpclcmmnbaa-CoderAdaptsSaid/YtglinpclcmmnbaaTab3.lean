/- table: Bump. -/
import Derived.Test.YtglinpclcmmnbaaTab2
namespace Go.Proofs.Ytglinpclcmmnbaa
open Go.RowKit

def bumpI (cs : List Int) (i : Int) : List Int := if 0 ≤ i ∧ i < cs.length then bumpOf cs i.toNat else cs
def bumpE (cs : List Int) (i : Int) : Nat := if 0 ≤ i ∧ i < cs.length then 0 else 2
theorem bumpI_ok {cs : List Int} {i : Int} (h : Vt cs) : Vt (bumpI cs i) := by
  unfold bumpI
  split
  · exact bumpOf_ok h (by omega)
  · exact h
theorem bumpI_length (cs : List Int) (i : Int) : (bumpI cs i).length = cs.length := by
  unfold bumpI; split
  · exact bumpOf_length _ _
  · rfl

/-- Halved up to a place. -/
def halfTo (cs : List Int) (t : Nat) : List Int := halveOf (cs.take t) ++ cs.drop t
theorem halfTo_length (cs : List Int) (t : Nat) (_h : t ≤ cs.length) : (halfTo cs t).length = cs.length := by
  unfold halfTo halveOf; simp; omega
theorem halfTo_get {cs : List Int} {t : Nat} (h : t < cs.length) : (halfTo cs t)[t]? = some cs[t] := by
  unfold halfTo halveOf
  rw [List.getElem?_append_right (by simp; omega)]
  simp [Nat.min_eq_left (Nat.le_of_lt h), h]
theorem halfTo_set {cs : List Int} {t : Nat} (h : t < cs.length) : (halfTo cs t).set t ((cs[t] + 1) / 2) = halfTo cs (t + 1) := by
  unfold halfTo halveOf
  have hl : (List.map (fun c => (c + 1) / 2) (cs.take t)).length = t := by simp; omega
  rw [List.set_append_right _ _ (by omega), hl, Nat.sub_self, ← List.getElem_cons_drop h, List.set_cons_zero, List.take_succ_eq_append_getElem h, List.map_append]
  simp
theorem halfTo_all (cs : List Int) : halfTo cs cs.length = halveOf cs := by
  unfold halfTo; rw [List.take_length, List.drop_length, List.append_nil]
theorem halve_take_succ {cs : List Int} {t : Nat} (h : t < cs.length) : isum (halveOf (cs.take (t + 1))) = isum (halveOf (cs.take t)) + (cs[t] + 1) / 2 := by
  unfold halveOf
  rw [List.take_succ_eq_append_getElem h, List.map_append, isum_append]; simp [isum]

theorem Tbl.shut2 {w : World} {b n : Nat} {s : Int} {cs : List Int} {sv : Value} {R : List HP} (hs : s = isum cs) (hn : n = cs.length) (h : Sep w (HP.pt b #[sv, .int .i64 s] 81 :: HP.row 3 1 sv n (cs.map iv) :: R)) : Sep w (Tbl b cs :: R) := by
  subst hs
  subst hn
  exact Tbl.shut h

set_option maxRecDepth 100000 in
set_option maxHeartbeats 1000000 in
theorem bump_calls {b : Nat} {cs : List Int} {i : Int} {R : List HP} {w : World} (hv : Vt cs) (H : Sep w (Tbl b cs :: R)) :
    Calls Try.prog 28 #[.pointer (some ⟨b, 0, none⟩), .int .i64 i] w fun e w' => e = .returned (.int .i64 (bumpE cs i : Int)) ∧ Sep w' (Tbl b (bumpI cs i) :: R) := by
  by_cases h0 : 0 ≤ i ∧ i < cs.length
  · obtain ⟨k, rfl⟩ := Int.eq_ofNat_of_zero_le h0.1
    have hk : k < cs.length := by omega
    have hd : decide (0 ≤ (k : Int) ∧ (k : Int) < cs.length) = true := decide_eq_true h0
    have hr : bumpI cs k = bumpOf cs k := by unfold bumpI; rw [if_pos h0, Int.toNat_natCast]
    have he : bumpE cs k = 0 := by unfold bumpE; rw [if_pos h0]
    rw [hr, he]
    have H0 := H
    obtain ⟨sv, H⟩ := Tbl.open H
    have c0 := H.cell 0 rfl
    have c1 := H.cell 1 rfl
    have f1 := H.froz 1
    obtain ⟨g, cap, cur, rfl, -⟩ := H.tail.row_open (by omega)
    have r0 : w.cell? ⟨g, k, none⟩ = some (.int .i64 cs[k]) := H.tail.row_cell k (iv_get hk)
    have r1 := H.tail.row_froz k
    have hx := hv.2.2.1 _ (List.getElem_mem hk)
    have hxs : cs[k] ≤ 65536 := by
      have h1 := isum_take_succ hk
      have h2 := isum_take_le hv.2.2.1 (k + 1)
      have h3 := isum_take_nonneg hv.2.2.1 k
      have h4 := hv.2.2.2
      omega
    have hs := isum_nonneg hv.2.2.1
    have hs2 := hv.2.2.2
    have hset := bump_sum hk
    have hpos : ∀ y ∈ cs.set k (cs.getD k 0 + 32), 1 ≤ y := set_pos hv.2.2.1 (by rw [getD_get hk]; omega)
    have hbo : bumpOf cs k = if 65536 < isum cs + 32 then halveOf (cs.set k (cs.getD k 0 + 32)) else cs.set k (cs.getD k 0 + 32) := rfl
    have hdl : (cs.set k (cs.getD k 0 + 32)).length = cs.length := List.length_set
    rw [getD_get hk] at hset hpos hbo hdl
    have hmap : (cs.map iv).set k (.int .i64 (cs[k] + 32)) = (cs.set k (cs[k] + 32)).map iv := by rw [List.map_set]; rfl
    have H1 := H.swap.row_set k (.int .i64 (cs[k] + 32))
    rw [hmap] at H1
    have hlen := hv.2.1
    generalize cs[k] = x at *
    generalize hds : cs.set k (x + 32) = ds at *
    generalize hS : isum cs = s0 at *
    have H2 := H1.swap.set 1 (.int .i64 (s0 + 32))
    have H3 := H2.set 1 (.int .i64 0)
    have d1 : (w.setCell ⟨g, k, none⟩ (.int .i64 (x + 32))).cell? ⟨b, 1, none⟩ = some (.int .i64 s0) := H1.swap.cell 1 rfl
    have df : (w.setCell ⟨g, k, none⟩ (.int .i64 (x + 32))).frozen? ⟨b, 1, none⟩ = false := H1.swap.froz 1
    have e0 : ((w.setCell ⟨g, k, none⟩ (.int .i64 (x + 32))).setCell ⟨b, 1, none⟩ (.int .i64 (s0 + 32))).cell? ⟨b, 0, none⟩ = some (.slice (some ⟨g, 0, none⟩) cs.length cap) := H2.cell 0 rfl
    have e1 : ((w.setCell ⟨g, k, none⟩ (.int .i64 (x + 32))).setCell ⟨b, 1, none⟩ (.int .i64 (s0 + 32))).cell? ⟨b, 1, none⟩ = some (.int .i64 (s0 + 32)) := H2.cell 1 rfl
    have ef : ((w.setCell ⟨g, k, none⟩ (.int .i64 (x + 32))).setCell ⟨b, 1, none⟩ (.int .i64 (s0 + 32))).frozen? ⟨b, 1, none⟩ = false := H2.froz 1
    have k0 : (((w.setCell ⟨g, k, none⟩ (.int .i64 (x + 32))).setCell ⟨b, 1, none⟩ (.int .i64 (s0 + 32))).setCell ⟨b, 1, none⟩ (.int .i64 0)).cell? ⟨b, 0, none⟩ = some (.slice (some ⟨g, 0, none⟩) cs.length cap) := H3.cell 0 rfl
    replace H2 := Lib.hid H2
    replace H3 := Lib.hid H3
    clear H1 hr he h0 hv hmap hds
    by_cases hbig : 65536 < s0 + 32
    · rw [if_pos hbig] at hbo
      have HBO := Lib.hid hbo
      clear hbo
      go_enter Try.func28, Try.ntmps28
      go_wp2_with fail
      refine (has_calls H0).mono ?_
      rintro e w1 ⟨rfl, rfl⟩
      rw [hd]
      go_wp2_with fail
      have HB : Hid (∀ t, 0 ≤ isum (halveOf (ds.take t)) ∧ isum (halveOf (ds.take t)) ≤ 40000) := Lib.hid fun t => by
        have h1 := halveOf_sum (ds.take t) (fun y hy => hpos y (List.mem_of_mem_take hy))
        have h2 := isum_take_le hpos t
        have h3 := isum_take_nonneg hpos t
        have h4 : (ds.take t).length ≤ ds.length := by rw [List.length_take]; omega
        omega
      have HP1 := Lib.hid hpos
      clear hpos H0 H c0 c1 f1 r0 r1 d1 df e0 e1 ef
      have H3' := H3.out
      generalize (((w.setCell ⟨g, k, none⟩ (.int .i64 (x + 32))).setCell ⟨b, 1, none⟩ (.int .i64 (s0 + 32))).setCell ⟨b, 1, none⟩ (.int .i64 0)) = w3 at H3' ⊢
      clear H3 H2 k0
      go_loopg [5, 6, 42] cs.length (fun gk _ _ i wr => ∃ t : Nat, Hid (t ≤ cs.length ∧ gk = cs.length - t) ∧ i = .int .i64 (t : Int) ∧ Sep wr (HP.pt b #[.slice (some ⟨g, 0, none⟩) cs.length cap, .int .i64 (isum (halveOf (ds.take t)))] 81 :: HP.row 3 1 (.slice (some ⟨g, 0, none⟩) cs.length cap) cs.length ((halfTo ds t).map iv) :: R))
      case atStart => exact ⟨0, Lib.hid ⟨by omega, rfl⟩, rfl, H3'⟩
      case round =>
        clear H3'
        obtain ⟨t, hq, rfl, Hr⟩ := hrel
        obtain ⟨q1, q2⟩ := hq.out
        clear hq
        by_cases c : t < cs.length
        · have ct : t < ds.length := by omega
          have c0 : wr.cell? ⟨b, 0, none⟩ = some (.slice (some ⟨g, 0, none⟩) cs.length cap) := Hr.cell 0 rfl
          have r0 : wr.cell? ⟨g, t, none⟩ = some (.int .i64 ds[t]) := Hr.tail.row_cell t (by rw [List.getElem?_map, halfTo_get ct]; rfl)
          have r1 := Hr.tail.row_froz t
          have hmap : ((halfTo ds t).map iv).set t (.int .i64 ((ds[t] + 1) / 2)) = (halfTo ds (t + 1)).map iv := by rw [← halfTo_set ct, List.map_set]; rfl
          have H4 := Hr.swap.row_set t (.int .i64 ((ds[t] + 1) / 2))
          rw [hmap] at H4
          have hsum := halve_take_succ ct
          have hb1 := HB.out t
          have hb2 := HB.out (t + 1)
          have hx1 := HP1.out _ (List.getElem_mem ct)
          have hx2 : ds[t] ≤ 70000 := by
            have h1 := isum_take_succ ct
            have h2 := isum_take_le HP1.out (t + 1)
            have h3 := isum_take_nonneg HP1.out t
            omega
          have hnew : (halfTo ds (t + 1))[t]? = some ((ds[t] + 1) / 2) := by
            rw [← halfTo_set ct, List.getElem?_set_self (by rw [halfTo_length _ _ (by omega)]; exact ct)]
          have r2 : ∀ W, Sep W (HP.row 3 1 (.slice (some ⟨g, 0, none⟩) cs.length cap) cs.length ((halfTo ds (t + 1)).map iv) :: HP.pt b #[.slice (some ⟨g, 0, none⟩) cs.length cap, .int .i64 (isum (halveOf (ds.take t)))] 81 :: R) → W.cell? ⟨g, t, none⟩ = some (.int .i64 ((ds[t] + 1) / 2)) := fun W h => h.row_cell t (by rw [List.getElem?_map, hnew]; rfl)
          rw [hsum] at hb2
          have HS := Lib.hid hsum
          have R2 := Lib.hid r2
          clear hsum hmap hnew Hr r2
          generalize isum (halveOf (ds.take t)) = Y at *
          generalize ds[t] = y at *
          have hdiv : (y + 1).tdiv 2 = (y + 1) / 2 := Int.tdiv_eq_ediv_of_nonneg (by omega)
          go_wp2_with fail
          generalize hz : (y + 1) / 2 = z at *
          generalize wr.setCell ⟨g, t, none⟩ (.int .i64 z) = W at H4 ⊢
          have c0 : W.cell? ⟨b, 0, none⟩ = some (.slice (some ⟨g, 0, none⟩) cs.length cap) := H4.swap.cell 0 rfl
          have c1 : W.cell? ⟨b, 1, none⟩ = some (.int .i64 Y) := H4.swap.cell 1 rfl
          have f1 := H4.swap.froz 1
          have r2 := R2.out _ H4
          have H5 := H4.drew
          clear H4
          (refine wp_region_still_tail 14 (by kernel_rfl) (by kernel_rfl) ?_; simp only [List.take_succ_cons, List.take_zero, List.drop_succ_cons, List.drop_zero]; (repeat (refine wpStill_step (fun K hK => ?_); go_simp; (try go_bits); refine hK _ ?_; clear hK K)); try refine wpStill_nil ?_)
          change wpList _ _ _ _ _ (World.drew W)
          have c0 : W.drew.cell? ⟨b, 0, none⟩ = some (.slice (some ⟨g, 0, none⟩) cs.length cap) := H5.swap.cell 0 rfl
          have c1 : W.drew.cell? ⟨b, 1, none⟩ = some (.int .i64 Y) := H5.swap.cell 1 rfl
          have f1 := H5.swap.froz 1
          have r2 := R2.out _ H5
          generalize W.drew = W2 at *
          have H6 := H5.swap.set 1 (.int .i64 (Y + z))
          go_wp2_with fail
          go_roundg (cs.length - (t + 1))
          case rel => exact ⟨t + 1, Lib.hid ⟨by omega, rfl⟩, by go_num, by rw [HS.out]; exact H6⟩
          case measure => omega
        · obtain rfl : t = cs.length := by omega
          go_wp2_with fail
          go_ret
          rw [HBO.out]
          rw [← hdl, halfTo_all, List.take_length] at Hr
          exact ⟨rfl, Tbl.shut2 rfl (by unfold halveOf; rw [List.length_map]) Hr⟩
    · rw [if_neg hbig] at hbo
      have HBO := Lib.hid hbo
      clear hbo
      go_enter Try.func28, Try.ntmps28
      go_wp2_with fail
      refine (has_calls H0).mono ?_
      rintro e w1 ⟨rfl, rfl⟩
      rw [hd]
      go_wp2_with fail
      go_ret
      rw [HBO.out]
      exact ⟨rfl, Tbl.shut2 hset.symm hdl.symm H2.out⟩
  · have hd : decide (0 ≤ i ∧ i < cs.length) = false := decide_eq_false h0
    have hr : bumpI cs i = cs := by unfold bumpI; rw [if_neg h0]
    have he : bumpE cs i = 2 := by unfold bumpE; rw [if_neg h0]
    rw [hr, he]
    clear hr he
    go_enter Try.func28, Try.ntmps28
    go_wp2_with fail
    refine (has_calls H).mono ?_
    rintro e w1 ⟨rfl, rfl⟩
    rw [hd]
    go_wp2_with fail
    go_ret
    exact ⟨rfl, H⟩

end Go.Proofs.Ytglinpclcmmnbaa
