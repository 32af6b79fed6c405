/- table: Find. -/
import Derived.Test.YtglinpclcmmnbaaTab4
namespace Go.Proofs.Ytglinpclcmmnbaa
open Go.RowKit

/-- The ends, up to a place. -/
def endsTo (cs : List Int) (t : Nat) : List Int := (List.range cs.length).map fun j => if j < t then isum (cs.take (j + 1)) else 0
theorem endsTo_length (cs : List Int) (t : Nat) : (endsTo cs t).length = cs.length := by simp [endsTo]
theorem endsTo_zero (cs : List Int) : endsTo cs 0 = List.replicate cs.length 0 := by
  unfold endsTo
  apply List.ext_getElem?
  intro i
  simp only [List.getElem?_map, List.getElem?_replicate]
  by_cases h : i < cs.length
  · simp [h]
  · simp [h]
theorem endsTo_set (cs : List Int) (t : Nat) : (endsTo cs t).set t (isum (cs.take (t + 1))) = endsTo cs (t + 1) := by
  apply List.ext_getElem
  · simp [endsTo]
  intro i h1 h2
  simp only [endsTo, List.getElem_set, List.getElem_map, List.getElem_range]
  by_cases hi : t = i
  · subst hi; simp
  · rw [if_neg hi]
    by_cases hlt : i < t
    · rw [if_pos hlt, if_pos (by omega)]
    · rw [if_neg hlt, if_neg (by omega)]
theorem endsTo_get {cs : List Int} {i : Nat} (h : i < cs.length) : (endsTo cs cs.length)[i]? = some (isum (cs.take (i + 1))) := by
  unfold endsTo
  simp [h]

set_option maxRecDepth 100000 in
set_option maxHeartbeats 1000000 in
theorem find1_says {be bx g cap n : Nat} {x : Int} {es : List Int} {R : List HP} (hn : es.length = n) :
    Says 53 (.pointer (some ⟨be, 0, none⟩)) (.pointer (some ⟨bx, 0, none⟩))
      (HP.pt be #[.slice (some ⟨g, 0, none⟩) n cap] 22 :: HP.pt bx #[.int .i64 x] 3 :: HP.row 3 1 (.slice (some ⟨g, 0, none⟩) n cap) n (es.map iv) :: R) n (fun i => decide (x < es.getD i 0)) := by
  intro i w hi H
  have c0 : w.cell? ⟨be, 0, none⟩ = some (.slice (some ⟨g, 0, none⟩) n cap) := H.cell 0 rfl
  have c1 : w.cell? ⟨bx, 0, none⟩ = some (.int .i64 x) := H.tail.cell 0 rfl
  have c2 : w.cell? ⟨g, i, none⟩ = some (.int .i64 es[i]) := H.tail.tail.row_cell i (iv_get (by omega))
  have hg : es.getD i 0 = es[i] := getD_get (by omega)
  show Calls Try.prog 53 #[.int .i64 (i : Int), _, _] w fun e w' => e = .returned (.bool (decide (x < es.getD i 0))) ∧ Sep w' _
  rw [hg]
  clear hg
  generalize es[i] = y at c2 ⊢
  subst hn
  go_enter Try.func53, Try.ntmps53
  go_wp2_with fail
  (refine wp_region_quiet_lit (by kernel_rfl) (by kernel_rfl) ?_; (repeat (first | go_big_quiet_skip | (go_big_quiet_want; go_big_quiet_op; (try go_bits); first | go_big_quiet_on | go_big_quiet_call ((fail))))); refine wpQuiet_nil ?_; intro _ hw'; obtain ⟨nq, hw''⟩ := hw'; subst hw'')
  go_wp2_with fail
  go_ret
  exact ⟨rfl, H.drewN nq⟩

/-- What Find gives. -/
def findI (cs : List Int) (x : Int) : Nat := if 0 ≤ x ∧ x < isum cs then findOf cs x else 0

set_option maxRecDepth 100000 in
set_option maxHeartbeats 1000000 in
theorem find_calls {b : Nat} {cs : List Int} {x : Int} {R : List HP} {w : World} (hv : Vt cs) (H : Sep w (Tbl b cs :: R)) :
    Calls Try.prog 21 #[.pointer (some ⟨b, 0, none⟩), .int .i64 x] w fun e w' => e = .returned (.tuple #[.int .i64 (findI cs x : Int), .bool (decide (0 ≤ x ∧ x < isum cs))]) ∧ Sep w' (Tbl b cs :: R) := by
  have H1 := H.alloc #[.int .i64 x] 3
  by_cases h0 : 0 ≤ x ∧ x < isum cs
  · have hd : decide (0 ≤ x ∧ x < isum cs) = true := decide_eq_true h0
    have hf : findI cs x = findOf cs x := by unfold findI; rw [if_pos h0]
    rw [hd, hf]
    have d1 : decide (x < 0) = false := decide_eq_false (by omega)
    have d2 : decide (isum cs ≤ x) = false := decide_eq_false (by omega)
    have hmf : ∀ (fn : Fn) (first cap : Array Value) (w : World), (Instr.makeFunc fn first cap).run Try.prog w = .ok (.func fn first cap) w := fun _ _ _ _ => rfl
    have hen : ∀ args w, (callFunc 53 args).run Try.prog w = .ok (.enter 53 args) w := enters_of Try.func53 (by kernel_rfl) rfl
    have hl := hv.2.1
    have hl1 := hv.1
    have HV := Lib.hid hv
    have HLO : Hid (∀ i, i < findOf cs x → (fun i => decide (x < (endsTo cs cs.length).getD i 0)) i = false) := Lib.hid fun i hi => by
      have hlt := findOf_lt h0.2 h0.1
      have := findOf_spec (x := x) hv.2.2.1 (show i < cs.length by omega)
      show decide (x < (endsTo cs cs.length).getD i 0) = false
      rw [List.getD, endsTo_get (by omega)]
      simp only [Option.getD_some]
      exact decide_eq_false (fun hc => by have := this.1 hc; omega)
    have HHI : Hid (∀ i, findOf cs x ≤ i → i < cs.length → (fun i => decide (x < (endsTo cs cs.length).getD i 0)) i = true) := Lib.hid fun i hi1 hi2 => by
      have := findOf_spec (x := x) hv.2.2.1 hi2
      show decide (x < (endsTo cs cs.length).getD i 0) = true
      rw [List.getD, endsTo_get hi2]
      simp only [Option.getD_some]
      exact decide_eq_true (this.2 hi1)
    have HM := Lib.hid (Nat.le_of_lt (findOf_lt h0.2 h0.1))
    have HEN := Lib.hid hen
    have HL : Hid (∀ t, 0 ≤ isum (cs.take t) ∧ isum (cs.take t) ≤ 65536) := Lib.hid fun t => ⟨isum_take_nonneg hv.2.2.1 t, by have := isum_take_le hv.2.2.1 t; have := hv.2.2.2; omega⟩
    clear hen hv
    clear hf hd
    obtain ⟨sv, H2⟩ := Tbl.open H1.swap
    obtain ⟨g, cap, cur, rfl, -⟩ := H2.tail.row_open (by omega)
    have e0 : (w.alloc (.cells #[.int .i64 x] 3)).cell? ⟨w.heap.size, 0, none⟩ = some (.int .i64 x) := H1.cell 0 rfl
    have H1' := Lib.hid H1
    go_enter Try.func21, Try.ntmps21
    go_wp2_with fail
    (refine wp_region_quiet_lit (by kernel_rfl) (by kernel_rfl) ?_; (repeat (first | go_big_quiet_skip | (go_big_quiet_want; go_big_quiet_op; (try go_bits); first | go_big_quiet_on | go_big_quiet_call ((go_at_call 30; exact (total_calls (H1.swap.drewN _)).mono fun _ _ h => ⟨h.1, _, h.2.symm⟩))))); refine wpQuiet_nil ?_; intro _ hw'; obtain ⟨nq, hw''⟩ := hw'; subst hw'')
    have H3 := (H2.drewN nq).rot3
    generalize (w.alloc (.cells #[.int .i64 x] 3)).drewN nq = w1 at H3 ⊢
    generalize w.heap.size = bx at H3 ⊢
    clear e0 H1' H1 H2
    have c0 : w1.cell? ⟨b, 0, none⟩ = some (.slice (some ⟨g, 0, none⟩) cs.length cap) := H3.tail.cell 0 rfl
    go_wp2_with ((at_make; go_must (refine wpList_make_sep rfl _ _ 22 rfl 3 (.int .i64 0) 8 Try.underlying22 info_iv rfl H3 .i64 .i64 cs.length cs.length cs.length rfl rfl rfl rfl (by omega) (by unfold maxLen; omega) ?_); intro ge w2 H4; have H5 := H4.alloc #[.slice (some ⟨ge, 0, none⟩) cs.length cs.length] 22; have c5 : (w2.alloc (.cells #[.slice (some ⟨ge, 0, none⟩) cs.length cs.length] 22)).cell? ⟨b, 0, none⟩ = some (.slice (some ⟨g, 0, none⟩) cs.length cap) := H5.tail.tail.tail.cell 0 rfl))
    clear c5 c0 H3
    generalize w2.alloc (.cells #[.slice (some ⟨ge, 0, none⟩) cs.length cs.length] 22) = w3 at H5 ⊢
    generalize w2.heap.size = be at H5 ⊢
    clear H4
    have hz : List.replicate cs.length (Value.int .i64 0) = (endsTo cs 0).map iv := by rw [endsTo_zero, List.map_replicate]; rfl
    rw [hz] at H5
    clear hz
    go_loopg [7, 8, 9, 29] cs.length (fun gk n _ _ i wr => ∃ t : Nat, Hid (t ≤ cs.length ∧ gk = cs.length - t) ∧ n = .int .i64 (isum (cs.take t)) ∧ i = .int .i64 (t : Int) ∧
      Sep wr (HP.pt be #[.slice (some ⟨ge, 0, none⟩) cs.length cs.length] 22 :: HP.row 3 1 (.slice (some ⟨ge, 0, none⟩) cs.length cs.length) cs.length ((endsTo cs t).map iv) :: HP.pt bx #[.int .i64 x] 3 :: HP.pt b #[.slice (some ⟨g, 0, none⟩) cs.length cap, .int .i64 (isum cs)] 81 :: HP.row 3 1 (.slice (some ⟨g, 0, none⟩) cs.length cap) cs.length (cs.map iv) :: R))
    case atStart => exact ⟨0, Lib.hid ⟨by omega, rfl⟩, rfl, rfl, H5⟩
    case round =>
      clear H5
      obtain ⟨t, hq, rfl, rfl, Hr⟩ := hrel
      obtain ⟨q1, q2⟩ := hq.out
      clear hq
      have e0 : wr.cell? ⟨be, 0, none⟩ = some (.slice (some ⟨ge, 0, none⟩) cs.length cs.length) := Hr.cell 0 rfl
      by_cases c : t < cs.length
      · have r0 : wr.cell? ⟨g, t, none⟩ = some (.int .i64 cs[t]) := Hr.tail.tail.tail.tail.row_cell t (iv_get c)
        obtain ⟨u, hu⟩ : ∃ u, ((endsTo cs t).map iv)[t]? = some u := ⟨_, List.getElem?_eq_getElem (by rw [List.length_map, endsTo_length]; exact c)⟩
        have e1 : wr.cell? ⟨ge, t, none⟩ = some u := Hr.tail.row_cell t hu
        have f0 := Hr.tail.row_froz t
        clear hu
        have hs := isum_take_succ c
        have b1 := HL.out t
        have b2 := HL.out (t + 1)
        have hmap : ((endsTo cs t).map iv).set t (.int .i64 (isum (cs.take (t + 1)))) = (endsTo cs (t + 1)).map iv := by rw [← endsTo_set, List.map_set]; rfl
        have H6 := (Hr.swap.row_set t (.int .i64 (isum (cs.take (t + 1))))).swap
        rw [hmap] at H6
        rw [hs] at H6 b2
        have HS := Lib.hid hs
        clear hs hmap
        generalize isum (cs.take t) = X at *
        generalize cs[t] = y at r0 H6 b2 HS
        go_wp2_with fail
        go_roundg (cs.length - (t + 1))
        case rel => exact ⟨t + 1, Lib.hid ⟨by omega, rfl⟩, by rw [HS.out], by go_num, H6⟩
        case measure => omega
      · obtain rfl : t = cs.length := by omega
        have H7 := Hr.rot3.swap
        clear Hr
        go_wp2_with fail
        refine (search_calls HEN.out (by omega) HM.out HLO.out HHI.out (find1_says (endsTo_length cs cs.length)) H7).mono ?_
        rintro e w4 ⟨rfl, H8⟩
        go_wp2_with fail
        go_ret2
        exact ⟨rfl, Tbl.shut H8.tail.tail.tail⟩
  · have hd : decide (0 ≤ x ∧ x < isum cs) = false := decide_eq_false h0
    have hf : findI cs x = 0 := by unfold findI; rw [if_neg h0]
    rw [hd, hf]
    clear hd hf
    have e0 : (w.alloc (.cells #[.int .i64 x] 3)).cell? ⟨w.heap.size, 0, none⟩ = some (.int .i64 x) := H1.cell 0 rfl
    by_cases hx : x < 0
    · have d1 : decide (x < 0) = true := decide_eq_true hx
      go_enter Try.func21, Try.ntmps21
      go_wp2_with fail
      (refine wp_region_quiet_lit (by kernel_rfl) (by kernel_rfl) ?_; (repeat (first | go_big_quiet_skip | (go_big_quiet_want; go_big_quiet_op; (try go_bits); first | go_big_quiet_on | go_big_quiet_call ((fail))))); refine wpQuiet_nil ?_; intro _ hw'; obtain ⟨nq, hw''⟩ := hw'; subst hw'')
      have H3 := H1.tail.drewN nq
      go_wp2_with fail
      go_ret2
      exact ⟨rfl, H3⟩
    · have d1 : decide (x < 0) = false := decide_eq_false hx
      have d2 : decide (isum cs ≤ x) = true := decide_eq_true (by omega)
      go_enter Try.func21, Try.ntmps21
      go_wp2_with fail
      (refine wp_region_quiet_lit (by kernel_rfl) (by kernel_rfl) ?_; (repeat (first | go_big_quiet_skip | (go_big_quiet_want; go_big_quiet_op; (try go_bits); first | go_big_quiet_on | go_big_quiet_call ((go_at_call 30; exact (total_calls (H1.swap.drewN _)).mono fun _ _ h => ⟨h.1, _, h.2.symm⟩))))); refine wpQuiet_nil ?_; intro _ hw'; obtain ⟨nq, hw''⟩ := hw'; subst hw'')
      have H3 := H1.tail.drewN nq
      go_wp2_with fail
      go_ret2
      exact ⟨rfl, H3⟩

end Go.Proofs.Ytglinpclcmmnbaa
