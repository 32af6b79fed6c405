/- order: Right, Invert, After, numbers. -/
import Derived.Test.YticeolbagfaofaaFits
import Derived.Test.YticeolbagfaofaaOrdPlain2
import Derived.Test.YticeolbagfaofaaBits4
import Derived.Test.YticeolbagfaofaaRef1c
namespace Go.Proofs.Yticeolbagfaofaa
open Go.RowKit

theorem info_bool : (Try.prog.info? 4).map (fun i => (i.zero, i.size, i.bytes)) = some (some (.bool false), 1, 1) := by kernel_rfl

/-- Which numbers came. -/
def seenL (xs : List Int) (n t : Nat) : List Value := (List.range n).map fun (j : Nat) => .bool (decide ((j : Int) ∈ xs.take t))
theorem seenL_length (xs : List Int) (n t : Nat) : (seenL xs n t).length = n := by simp [seenL]
theorem seenL_zero (xs : List Int) (n : Nat) : seenL xs n 0 = List.replicate n (.bool false) := by
  unfold seenL
  apply List.ext_getElem?
  intro i
  simp only [List.getElem?_map, List.getElem?_replicate]
  by_cases h : i < n
  · simp [h]
  · simp [h]
theorem seenL_get {xs : List Int} {n t j : Nat} (h : j < n) : (seenL xs n t)[j]? = some (.bool (decide ((j : Int) ∈ xs.take t))) := by
  simp [seenL, h]
theorem seenL_set {xs : List Int} {n t j : Nat} (ht : t < xs.length) (hj : (j : Int) = xs[t]) : (seenL xs n t).set j (.bool true) = seenL xs n (t + 1) := by
  apply List.ext_getElem
  · simp [seenL]
  intro i h1 h2
  simp only [seenL, List.getElem_set, List.getElem_map, List.getElem_range]
  rw [List.take_succ_eq_append_getElem ht]
  by_cases hi : j = i
  · subst hi
    rw [if_pos rfl, decide_eq_true (List.mem_append_right _ (List.mem_singleton.2 hj))]
  · rw [if_neg hi]
    have hne : ¬ (i : Int) = xs[t] := by omega
    congr 1
    exact decide_eq_decide.2 ⟨fun h => List.mem_append_left _ h, fun h => (List.mem_append.1 h).elim id (fun h => absurd (List.mem_singleton.1 h) hne)⟩

set_option maxRecDepth 100000 in
set_option maxHeartbeats 1000000 in
theorem oright_calls {v : Value} {xs : List Int} {R : List HP} {w : World} (hlen : xs.length ≤ 100000) (hrd : Reads R v xs.length 1 (xs.map iv)) (H : Sep w R) :
    Calls Try.prog 26 #[v] w fun e w' => e = .returned (.bool (rightB xs)) ∧ Sep w' R := by
  obtain ⟨a, cap, rfl⟩ := (hrd w H).form
  have HRD := Lib.hid hrd
  have HZ := Lib.hid (seenL_zero xs xs.length)
  clear hrd
  go_enter Try.func26, Try.ntmps26
  go_wp2_with ((at_make; go_must (refine wpList_make_sep rfl _ _ 63 rfl 4 (.bool false) 1 Try.underlying63 info_bool rfl H .i64 .i64 xs.length xs.length xs.length rfl rfl rfl rfl (by omega) (by unfold maxLen; omega) ?_); intro g w2 H2))
  rw [← HZ.out] at H2
  clear H
  go_loopg [5, 11] xs.length (fun gk _ i wr => ∃ t : Nat, Hid (t ≤ xs.length ∧ gk = xs.length - t) ∧ Hid ((∀ x ∈ xs.take t, 0 ≤ x ∧ x < xs.length) ∧ (xs.take t).Nodup) ∧ i = .int .i64 (t : Int) ∧ Sep wr (HP.row 4 1 (.slice (some ⟨g, 0, none⟩) xs.length xs.length) xs.length (seenL xs xs.length t) :: R))
  case atStart => exact ⟨0, Lib.hid ⟨by omega, rfl⟩, Lib.hid ⟨by simp, by simp⟩, rfl, H2⟩
  case round =>
    clear H2
    obtain ⟨t, hq, hh, rfl, Hr⟩ := hrel
    obtain ⟨q1, q2⟩ := hq.out
    clear hq
    by_cases c : t < xs.length
    · have hrw := HRD.out _ Hr.tail
      obtain ⟨g2, o, d, he⟩ := hrw.open (by omega)
      simp only [Value.slice.injEq, true_and] at he
      obtain ⟨rfl, rfl⟩ := he
      have hc : wr.cell? ⟨g2, o + t, none⟩ = some (.int .i64 xs[t]) := hrw.cell t (iv_get c)
      have HT := Lib.hid (List.take_succ_eq_append_getElem c)
      have HM := Lib.hid (List.getElem_mem c)
      have HSS := Lib.hid (fun (j : Nat) (hj : (j : Int) = xs[t]) => seenL_set (n := xs.length) c hj)
      clear hrw
      generalize xs[t] = x at hc HT HM HSS
      by_cases c1 : x < 0
      · have hb : rightB xs = false := by
          unfold rightB
          exact decide_eq_false (fun h => by have := h.1 x HM.out; omega)
        have HB := Lib.hid hb
        clear hb
        go_wp2_with fail
        go_ret
        rw [HB.out]
        exact ⟨rfl, Hr.tail⟩
      by_cases c2 : (xs.length : Int) ≤ x
      · have hb : rightB xs = false := by
          unfold rightB
          exact decide_eq_false (fun h => by have := h.1 x HM.out; omega)
        have HB := Lib.hid hb
        clear hb
        go_wp2_with fail
        go_ret
        rw [HB.out]
        exact ⟨rfl, Hr.tail⟩
      obtain ⟨j, rfl⟩ := Int.eq_ofNat_of_zero_le (show 0 ≤ x by omega)
      have hj : j < xs.length := by omega
      have r0 : wr.cell? ⟨g, j, none⟩ = some (.bool (decide ((j : Int) ∈ xs.take t))) := Hr.row_cell j (seenL_get hj)
      have f0 := Hr.row_froz j
      by_cases c3 : (j : Int) ∈ xs.take t
      · rw [decide_eq_true c3] at r0
        have hb : rightB xs = false := by
          unfold rightB
          refine decide_eq_false (fun h => ?_)
          have h2 := h.2
          rw [← List.take_append_drop (t + 1) xs, HT.out] at h2
          have h3 := (List.nodup_append.1 (List.nodup_append.1 h2).1).2.2 _ c3 (j : Int) (by simp)
          exact h3 rfl
        have HB := Lib.hid hb
        clear hb c3
        go_wp2_with fail
        go_ret
        rw [HB.out]
        exact ⟨rfl, Hr.tail⟩
      · rw [decide_eq_false c3] at r0
        have H6 := Hr.row_set j (.bool true)
        rw [HSS.out j rfl] at H6
        have HN : Hid ((∀ x ∈ xs.take (t + 1), 0 ≤ x ∧ x < xs.length) ∧ (xs.take (t + 1)).Nodup) := Lib.hid (by
          rw [HT.out]
          refine ⟨fun x hx => ?_, ?_⟩
          · rcases List.mem_append.1 hx with hx | hx
            · exact hh.out.1 x hx
            · have : x = j := by simpa using hx
              omega
          · rw [List.nodup_append]
            refine ⟨hh.out.2, by simp, fun a ha b hb => ?_⟩
            have : b = j := by simpa using hb
            subst this
            intro e
            subst e
            exact c3 ha)
        clear c3 hh
        go_wp2_with fail
        go_roundg (xs.length - (t + 1))
        case rel => exact ⟨t + 1, Lib.hid ⟨by omega, rfl⟩, HN, by go_num, H6⟩
        case measure => omega
    · have hb : rightB xs = true := by
        have h := hh.out
        rw [List.take_of_length_le (by omega)] at h
        unfold rightB
        exact decide_eq_true h
      have HB := Lib.hid hb
      clear hb hh
      go_wp2_with fail
      go_ret
      rw [HB.out]
      exact ⟨rfl, Hr.tail⟩

/-- What Invert gives. -/
def InvPost (xs : List Int) (R : List HP) (r : Value) (w' : World) : Prop :=
  (rightB xs = false ∧ r = .tuple #[.slice none 0 0, .int .i64 1] ∧ Sep w' R) ∨
  (rightB xs = true ∧ ∃ v, r = .tuple #[v, .int .i64 0] ∧ Sep w' (HP.row 3 1 v xs.length ((invL xs).map iv) :: R))

/-- The turned one up to a place. -/
def invTo (xs : List Int) (t : Nat) : List Int := (List.range xs.length).map fun (j : Nat) => if xs.idxOf (j : Int) < t then ((xs.idxOf (j : Int) : Nat) : Int) else 0
theorem invTo_length (xs : List Int) (t : Nat) : (invTo xs t).length = xs.length := by simp [invTo]
theorem invTo_zero (xs : List Int) : invTo xs 0 = List.replicate xs.length 0 := by
  unfold invTo
  apply List.ext_getElem?
  intro i
  simp only [List.getElem?_map, List.getElem?_replicate]
  by_cases h : i < xs.length
  · simp [h]
  · simp [h]
theorem invTo_set {xs : List Int} (h : rightP xs) {t : Nat} (ht : t < xs.length) {j : Nat} (hj : (j : Int) = xs[t]) : (invTo xs t).set j (t : Int) = invTo xs (t + 1) := by
  apply List.ext_getElem
  · simp [invTo]
  intro i h1 h2
  have hi : i < xs.length := by simpa [invTo] using h2
  simp only [invTo, List.getElem_set, List.getElem_map, List.getElem_range]
  have hjt := idxOf_get h.2 ht
  rw [← hj] at hjt
  by_cases e : j = i
  · subst e
    rw [if_pos rfl, hjt, if_pos (by omega)]
  · rw [if_neg e]
    have hm := right_all h (j := (i : Int)) (by omega) (by omega)
    have hlt := List.idxOf_lt_length_of_mem hm
    have hg := List.getElem_idxOf hlt
    have hne : xs.idxOf (i : Int) ≠ t := fun hc => by
      have : xs[xs.idxOf (i : Int)] = xs[t] := by congr 1
      rw [hg] at this
      omega
    by_cases hl : xs.idxOf (i : Int) < t
    · rw [if_pos hl, if_pos (by omega)]
    · rw [if_neg hl, if_neg (by omega)]
theorem invTo_all {xs : List Int} (h : rightP xs) : invTo xs xs.length = invL xs := by
  unfold invTo invL
  apply List.map_congr_left
  intro j hj
  have hj' := List.mem_range.1 hj
  rw [if_pos (List.idxOf_lt_length_of_mem (right_all h (j := (j : Int)) (by omega) (by omega)))]

set_option maxRecDepth 100000 in
set_option maxHeartbeats 1000000 in
theorem invert_calls {v : Value} {xs : List Int} {R : List HP} {w : World} (hlen : xs.length ≤ 100000) (hrd : Reads R v xs.length 1 (xs.map iv)) (H : Sep w R) :
    Calls Try.prog 27 #[v] w (Gives (InvPost xs R)) := by
  have hc := oright_calls hlen hrd H
  obtain ⟨a, cap, rfl⟩ := (hrd w H).form
  have HRD := Lib.hid hrd
  clear hrd
  cases hr : rightB xs with
  | false =>
    rw [hr] at hc
    have HR := Lib.hid hr
    clear hr
    go_enter Try.func27, Try.ntmps27
    go_wp2_with fail
    refine hc.mono ?_
    rintro e w1 ⟨rfl, H1⟩
    go_wp2_with fail
    go_ret2
    exact ⟨_, rfl, .inl ⟨HR.out, rfl, H1⟩⟩
  | true =>
    rw [hr] at hc
    have HR := Lib.hid hr
    have HP1 := Lib.hid (rightB_iff.1 hr)
    clear hr
    go_enter Try.func27, Try.ntmps27
    go_wp2_with fail
    refine hc.mono ?_
    rintro e w1 ⟨rfl, H1⟩
    clear H hc
    go_wp2_with ((at_make; go_must (refine wpList_make_sep rfl _ _ 22 rfl 3 (.int .i64 0) 8 Try.underlying22 info_iv rfl H1 .i64 .i64 xs.length xs.length xs.length rfl rfl rfl rfl (by omega) (by unfold maxLen; omega) ?_); intro g w2 H2))
    have hz : List.replicate xs.length (Value.int .i64 0) = (invTo xs 0).map iv := by rw [invTo_zero, List.map_replicate]; rfl
    rw [hz] at H2
    clear hz H1
    go_loopg [5, 6, 15] xs.length (fun gk _ _ i wr => ∃ t : Nat, Hid (t ≤ xs.length ∧ gk = xs.length - t) ∧ i = .int .i64 (t : Int) ∧ Sep wr (HP.row 3 1 (.slice (some ⟨g, 0, none⟩) xs.length xs.length) xs.length ((invTo xs t).map iv) :: R))
    case atStart => exact ⟨0, Lib.hid ⟨by omega, rfl⟩, rfl, H2⟩
    case round =>
      clear H2
      obtain ⟨t, hq, rfl, Hr⟩ := hrel
      obtain ⟨q1, q2⟩ := hq.out
      clear hq
      by_cases c : t < xs.length
      · have hrw := HRD.out _ Hr.tail
        obtain ⟨g2, o, d, he⟩ := hrw.open (by omega)
        simp only [Value.slice.injEq, true_and] at he
        obtain ⟨rfl, rfl⟩ := he
        have hc : wr.cell? ⟨g2, o + t, none⟩ = some (.int .i64 xs[t]) := hrw.cell t (iv_get c)
        have hx := HP1.out.1 _ (List.getElem_mem c)
        have HS := Lib.hid (fun (j : Nat) (hj : (j : Int) = xs[t]) => invTo_set HP1.out c hj)
        clear hrw
        generalize xs[t] = x at hc hx HS
        obtain ⟨j, rfl⟩ := Int.eq_ofNat_of_zero_le hx.1
        have hj : j < xs.length := by omega
        obtain ⟨u, hu⟩ : ∃ u, ((invTo xs t).map iv)[j]? = some u := ⟨_, List.getElem?_eq_getElem (by rw [List.length_map, invTo_length]; exact hj)⟩
        have r0 : wr.cell? ⟨g, j, none⟩ = some u := Hr.row_cell j hu
        have f0 := Hr.row_froz j
        have H6 := Hr.row_set j (.int .i64 (t : Int))
        have hm : ((invTo xs t).map iv).set j (.int .i64 (t : Int)) = (invTo xs (t + 1)).map iv := by rw [← HS.out j rfl, List.map_set]; rfl
        rw [hm] at H6
        clear hu hm
        go_wp2_with fail
        go_roundg (xs.length - (t + 1))
        case rel => exact ⟨t + 1, Lib.hid ⟨by omega, rfl⟩, by go_num, H6⟩
        case measure => omega
      · obtain rfl : t = xs.length := by omega
        rw [invTo_all HP1.out] at Hr
        go_wp2_with fail
        go_ret2
        exact ⟨_, rfl, .inr ⟨HR.out, _, rfl, Hr⟩⟩

end Go.Proofs.Yticeolbagfaofaa
