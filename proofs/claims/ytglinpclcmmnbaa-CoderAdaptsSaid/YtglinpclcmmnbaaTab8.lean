/- Reference 03: Bump; a nil table; the document's example. -/
import Derived.Test.YtglinpclcmmnbaaTab7
namespace Go.Proofs.Ytglinpclcmmnbaa
open Go.RowKit

set_option maxRecDepth 100000 in
set_option maxHeartbeats 1000000 in
theorem rbump_calls {v : Value} {xs : List Int} {k : Nat} {R : List HP} {w : World} (hv : Vt xs) (hk : k < xs.length) (hrd : Reads R v xs.length 1 (xs.map iv)) (H : Sep w R) :
    Calls Try.prog 29 #[v, .int .i64 (k : Int)] w (Gives fun r w' => Sep w' (HP.row 3 1 r xs.length ((bumpOf xs k).map iv) :: R)) := by
  obtain ⟨a, cap, rfl⟩ := (hrd w H).form
  have hl := hv.2.1
  have h63 : 0 + xs.length ≤ maxLen := by unfold maxLen; omega
  have hby : (0 + xs.length) * 8 ≤ 140737488355328 := by omega
  have HE : Sep (w.alloc (.cells #[] 3)) (HP.row 3 1 (.slice (some ⟨w.heap.size, 0, none⟩) 0 0) 0 [] :: R) :=
    Sep.row_shut (H.alloc #[] 3) (Nat.le_refl _) (by unfold maxLen; omega) rfl rfl
  have hrd1 := hrd _ HE.tail
  have hx := hv.2.2.1 _ (List.getElem_mem hk)
  have hxs : xs[k] ≤ 65536 := by
    have h1 := isum_take_succ hk
    have h2 := isum_take_le hv.2.2.1 (k + 1)
    have h3 := isum_take_nonneg hv.2.2.1 k
    have h4 := hv.2.2.2
    omega
  have hs := isum_nonneg hv.2.2.1
  have hs2 := hv.2.2.2
  have hset := bump_sum hk
  have hpos : ∀ y ∈ xs.set k (xs.getD k 0 + 32), 1 ≤ y := set_pos hv.2.2.1 (by rw [getD_get hk]; omega)
  have hbo : bumpOf xs k = if 65536 < isum xs + 32 then halveOf (xs.set k (xs.getD k 0 + 32)) else xs.set k (xs.getD k 0 + 32) := rfl
  have hdl : (xs.set k (xs.getD k 0 + 32)).length = xs.length := List.length_set
  rw [getD_get hk] at hset hpos hbo hdl
  have hmap : (xs.map iv).set k (.int .i64 (xs[k] + 32)) = (xs.set k (xs[k] + 32)).map iv := by rw [List.map_set]; rfl
  have hget : (xs.map iv)[k]? = some (.int .i64 xs[k]) := iv_get hk
  generalize xs[k] = x at *
  generalize hds : xs.set k (x + 32) = ds at *
  generalize hS : isum xs = s0 at *
  have HP1 := Lib.hid hpos
  have HBO := Lib.hid hbo
  have HRT : Hid (∀ v w1, RdS w1 v ds.length 1 (ds.map iv) → Calls Try.prog 31 #[v] w1 fun e w' => e = .returned (.int .i64 (s0 + 32)) ∧ w1 = w') := Lib.hid fun v w1 h => by
    have := rtotal_calls hpos (by omega) h
    rwa [hset] at this
  have HM := Lib.hid hmap
  have HG := Lib.hid hget
  clear hmap hget hpos hbo hds hv hrd
  go_enter Try.func29, Try.ntmps29
  go_wp2_with ((at_builtin; go_must (refine wpList_append_src rfl (.tmp 7) (.tmp 8) 22 rfl 3 (.int .i64 0) 1 8 Try.underlying22 info_iv rfl (by decide) (.slice (some ⟨w.heap.size, 0, none⟩) 0 0) 0 [] rfl HE (.slice a xs.length cap) _ _ rfl hrd1 (iv_one _) h63 hby ?_); intro v3 w3 H3; rw [Nat.zero_add, List.nil_append] at H3; obtain ⟨g, vc, cur, hv3, hr⟩ := H3.row_open (by omega); subst hv3; clear hr; have c1 : w3.cell? ⟨g, k, none⟩ = some (.int .i64 x) := H3.row_cell k HG.out; have f1 := H3.row_froz k; have H4 := H3.row_set k (.int .i64 (x + 32)); rw [HM.out] at H4))
  clear HE hrd1 c1 f1 H3
  generalize w3.setCell ⟨g, k, none⟩ (.int .i64 (x + 32)) = w4 at H4 ⊢
  refine (HRT.out _ _ (by rw [hdl]; exact H4.rd)).mono ?_
  rintro e w5 ⟨rfl, rfl⟩
  by_cases hbig : 65536 < s0 + 32
  · have hb2 := HBO.out
    rw [if_pos hbig] at hb2
    have HB := Lib.hid hb2
    clear HBO hb2
    have HB2 : Hid (∀ t (c : t < ds.length), 1 ≤ ds[t] ∧ ds[t] ≤ 70000) := Lib.hid fun t c => by
      have h0 := HP1.out _ (List.getElem_mem c)
      have h1 := isum_take_succ c
      have h2 := isum_take_le HP1.out (t + 1)
      have h3 := isum_take_nonneg HP1.out t
      omega
    go_wp2_with fail
    go_loopg [6] xs.length (fun gk i wr => ∃ t : Nat, Hid (t ≤ xs.length ∧ gk = xs.length - t) ∧ i = .int .i64 (t : Int) ∧ Sep wr (HP.row 3 1 (.slice (some ⟨g, 0, none⟩) xs.length vc) xs.length ((halfTo ds t).map iv) :: R))
    case atStart => exact ⟨0, Lib.hid ⟨by omega, rfl⟩, rfl, H4⟩
    case round =>
      clear H4
      obtain ⟨t, hq, rfl, Hr⟩ := hrel
      obtain ⟨q1, q2⟩ := hq.out
      clear hq
      by_cases c : t < xs.length
      · have ct : t < ds.length := by omega
        have r0 : wr.cell? ⟨g, t, none⟩ = some (.int .i64 ds[t]) := Hr.row_cell t (by rw [List.getElem?_map, halfTo_get ct]; rfl)
        have r1 := Hr.row_froz t
        have hmap : ((halfTo ds t).map iv).set t (.int .i64 ((ds[t] + 1) / 2)) = (halfTo ds (t + 1)).map iv := by rw [← halfTo_set ct, List.map_set]; rfl
        have H5 := Hr.row_set t (.int .i64 ((ds[t] + 1) / 2))
        rw [hmap] at H5
        obtain ⟨hx1, hx2⟩ := HB2.out t ct
        clear hmap Hr
        generalize ds[t] = y at *
        have hdiv : (y + 1).tdiv 2 = (y + 1) / 2 := Int.tdiv_eq_ediv_of_nonneg (by omega)
        go_wp2_with fail
        go_roundg (xs.length - (t + 1))
        case rel => exact ⟨t + 1, Lib.hid ⟨by omega, rfl⟩, by go_num, H5⟩
        case measure => omega
      · obtain rfl : t = xs.length := by omega
        go_wp2_with fail
        go_ret
        rw [HB.out]
        have h := Hr
        rw [← hdl, halfTo_all] at h
        rw [← hdl]
        exact ⟨_, rfl, h⟩
  · have hb2 := HBO.out
    rw [if_neg hbig] at hb2
    have HB := Lib.hid hb2
    clear HBO hb2
    go_wp2_with fail
    go_ret
    rw [HB.out]
    exact ⟨_, rfl, H4⟩

set_option maxRecDepth 100000 in
theorem symbols_nil {w : World} : Calls Try.prog 33 #[.pointer none] w fun e w' => e = .returned (.int .i64 0) ∧ w = w' := by
  go_enter Try.func33, Try.ntmps33
  go_wp2_with fail
  go_ret
  exact ⟨rfl, rfl⟩
set_option maxRecDepth 100000 in
theorem total_nil {w : World} : Calls Try.prog 30 #[.pointer none] w fun e w' => e = .returned (.int .i64 0) ∧ w = w' := by
  go_enter Try.func30, Try.ntmps30
  go_wp2_with fail
  go_ret
  exact ⟨rfl, rfl⟩
set_option maxRecDepth 100000 in
theorem has_nil {w : World} : Calls Try.prog 54 #[.pointer none, .int .i64 0] w fun e w' => e = .returned (.bool false) ∧ w = w' := by
  go_enter Try.func54, Try.ntmps54
  go_wp2_with fail
  refine symbols_nil.mono ?_
  rintro e w1 ⟨rfl, rfl⟩
  go_wp2_with fail
  go_ret
  exact ⟨rfl, rfl⟩
set_option maxRecDepth 100000 in
theorem low_nil {w : World} : Calls Try.prog 24 #[.pointer none, .int .i64 0] w fun e w' => e = .returned (.int .i64 0) ∧ w = w' := by
  go_enter Try.func24, Try.ntmps24
  go_wp2_with fail
  refine has_nil.mono ?_
  rintro e w1 ⟨rfl, rfl⟩
  go_wp2_with fail
  go_ret
  exact ⟨rfl, rfl⟩
set_option maxRecDepth 100000 in
theorem count_nil {w : World} : Calls Try.prog 26 #[.pointer none, .int .i64 0] w fun e w' => e = .returned (.int .i64 0) ∧ w = w' := by
  go_enter Try.func26, Try.ntmps26
  go_wp2_with fail
  refine has_nil.mono ?_
  rintro e w1 ⟨rfl, rfl⟩
  go_wp2_with fail
  go_ret
  exact ⟨rfl, rfl⟩
set_option maxRecDepth 100000 in
theorem bump_nil {w : World} : Calls Try.prog 28 #[.pointer none, .int .i64 0] w fun e w' => e = .returned (.int .i64 1) ∧ w = w' := by
  go_enter Try.func28, Try.ntmps28
  go_wp2_with fail
  go_ret
  exact ⟨rfl, rfl⟩
set_option maxRecDepth 100000 in
theorem clone_nil {w : World} : Calls Try.prog 32 #[.pointer none] w fun e w' => e = .returned (.pointer none) ∧ w = w' := by
  go_enter Try.func32, Try.ntmps32
  go_wp2_with fail
  go_ret
  exact ⟨rfl, rfl⟩
set_option maxRecDepth 100000 in
theorem find_nil {R : List HP} {w : World} (H : Sep w R) : Calls Try.prog 21 #[.pointer none, .int .i64 0] w fun e w' => e = .returned (.tuple #[.int .i64 0, .bool false]) ∧ Sep w' R := by
  have H1 := H.alloc #[.int .i64 0] 3
  have e0 : (w.alloc (.cells #[.int .i64 0] 3)).cell? ⟨w.heap.size, 0, none⟩ = some (.int .i64 0) := H1.cell 0 rfl
  go_enter Try.func21, Try.ntmps21
  go_wp2_with fail
  (refine wp_region_quiet_lit (by kernel_rfl) (by kernel_rfl) ?_; (repeat (first | go_big_quiet_skip | (go_big_quiet_want; go_big_quiet_op; (try go_bits); first | go_big_quiet_on | go_big_quiet_call ((go_at_call 30; exact total_nil.mono fun _ _ h => ⟨h.1, _, h.2.symm⟩))))); refine wpQuiet_nil ?_; intro _ hw'; obtain ⟨nq, hw''⟩ := hw'; subst hw'')
  have H3 := H1.tail.drewN nq
  go_wp2_with fail
  go_ret2
  exact ⟨rfl, H3⟩

set_option maxRecDepth 100000 in
set_option maxHeartbeats 1000000 in
theorem awake3 {R : List HP} {w : World} (H : Sep w R) : Calls Try.prog 18 #[] w fun e w' => e = .returned (.bool true) ∧ Sep w' R := by
  have H1 : Sep (w.alloc (.cells #[.int .i64 1, .int .i64 3, .int .i64 2] 3)) (HP.row 3 1 (.slice (some ⟨w.heap.size, 0, none⟩) 3 3) 3 (([1, 3, 2] : List Int).map iv) :: R) :=
    Sep.row_shut (H.alloc #[.int .i64 1, .int .i64 3, .int .i64 2] 3) (Nat.le_refl _) (by unfold maxLen; omega) rfl rfl
  have hv : Vt [1, 3, 2] := tabErr_ok (by decide)
  have hvb : Vt (bumpI [1, 3, 2] 2) := bumpI_ok hv
  go_enter Try.func18, Try.ntmps18
  go_wp2_with fail
  refine (new_calls (xs := [1, 3, 2]) Reads.row H1).mono ?_
  rintro e w1 ⟨r, rfl, ⟨hne, -, -⟩ | ⟨-, b, rfl, H2⟩⟩
  · exact absurd (by decide) hne
  go_wp2_with fail
  refine (find_calls hv H2).mono ?_
  rintro e w2 ⟨rfl, H3⟩
  have e1 : findI [1, 3, 2] 3 = 1 := by decide
  have e2 : decide ((0 : Int) ≤ 3 ∧ (3 : Int) < isum [1, 3, 2]) = true := by decide
  rw [e1, e2]
  go_wp2_with fail
  refine (total_calls H3).mono ?_
  rintro e w3 ⟨rfl, rfl⟩
  have e3 : isum [1, 3, 2] = 6 := by decide
  rw [e3]
  go_wp2_with fail
  refine (low_calls hv H3).mono ?_
  rintro e w3 ⟨rfl, rfl⟩
  have e4 : lowI [1, 3, 2] 2 = 4 := by decide
  rw [e4]
  go_wp2_with fail
  refine (bump_calls hv H3).mono ?_
  rintro e w3 ⟨rfl, H4⟩
  have e5 : bumpE [1, 3, 2] 2 = 0 := by decide
  rw [e5]
  go_wp2_with fail
  refine (count_calls H4).mono ?_
  rintro e w4 ⟨rfl, rfl⟩
  have e6 : countI (bumpI [1, 3, 2] 2) 2 = 34 := by decide
  rw [e6]
  go_wp2_with fail
  go_ret
  exact ⟨rfl, H4.tail.tail⟩

end Go.Proofs.Ytglinpclcmmnbaa
