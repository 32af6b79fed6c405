/- table: New. -/
import Derived.Test.YtglinpclcmmnbaaTab1
namespace Go.Proofs.Ytglinpclcmmnbaa
open Go.RowKit

set_option maxRecDepth 100000 in
set_option maxHeartbeats 1000000 in
theorem min_calls {g o cap : Nat} {xs : List Int} {w : World} (h1 : 1 ≤ xs.length) (hl : xs.length ≤ 256) (hrd : RdS w (.slice (some ⟨g, o, none⟩) xs.length cap) xs.length 1 (xs.map iv)) :
    Calls Try.prog 50 #[.slice (some ⟨g, o, none⟩) xs.length cap] w fun e w' => w = w' ∧ ∃ m : Int, e = .returned (.int .i64 m) ∧ (1 ≤ m ↔ ∀ x ∈ xs, 1 ≤ x) := by
  have c0 : w.cell? ⟨g, o + 0, none⟩ = some (.int .i64 xs[0]) := hrd.cell 0 (iv_get (by omega))
  rw [Nat.add_zero] at c0
  go_enter Try.func50, Try.ntmps50
  go_wp2_with fail
  go_loopg [3, 4] (xs.length - 1) (fun gk m i wr => wr = w ∧ ∃ t : Nat, ∃ y : Int, Hid (1 ≤ t ∧ t ≤ xs.length ∧ gk = xs.length - t) ∧ Hid (1 ≤ y ↔ ∀ x ∈ xs.take t, 1 ≤ x) ∧ m = .int .i64 y ∧ i = .int .i64 (t : Int))
  case atStart => exact ⟨rfl, 1, xs[0], Lib.hid ⟨by omega, by omega, rfl⟩, Lib.hid (by rw [List.take_succ_eq_append_getElem (by omega)]; simp), rfl, rfl⟩
  case round =>
    obtain ⟨rfl, t, y, hq, hy, rfl, rfl⟩ := hrel
    obtain ⟨q0, q1, q2⟩ := hq.out
    clear hq
    by_cases c : t < xs.length
    · have c1 : wr.cell? ⟨g, o + t, none⟩ = some (.int .i64 xs[t]) := hrd.cell t (iv_get c)
      have HN : Hid (∀ m : Int, m = min y xs[t] → (1 ≤ m ↔ ∀ x ∈ xs.take (t + 1), 1 ≤ x)) := Lib.hid fun m hm => by
        rw [List.take_succ_eq_append_getElem c]
        have := hy.out
        constructor
        · intro h x hx
          rcases List.mem_append.1 hx with hx | hx
          · exact this.1 (by omega) x hx
          · have : x = xs[t] := by simpa using hx
            omega
        · intro h
          have h2 := this.2 (fun x hx => h x (List.mem_append_left _ hx))
          have h3 := h xs[t] (List.mem_append_right _ (List.mem_singleton.2 rfl))
          omega
      generalize xs[t] = x at c1 HN
      by_cases cm : y ≤ x
      · have HN2 := Lib.hid (HN.out y (by omega))
        go_wp2_with fail
        go_roundg (xs.length - (t + 1))
        case rel => exact ⟨rfl, t + 1, y, Lib.hid ⟨by omega, by omega, rfl⟩, HN2, by go_num, by go_num⟩
        case measure => omega
      · have HN2 := Lib.hid (HN.out x (by omega))
        go_wp2_with fail
        go_roundg (xs.length - (t + 1))
        case rel => exact ⟨rfl, t + 1, x, Lib.hid ⟨by omega, by omega, rfl⟩, HN2, by go_num, by go_num⟩
        case measure => omega
    · obtain rfl : t = xs.length := by omega
      go_wp2_with fail
      go_ret
      have := hy.out
      rw [List.take_length] at this
      exact ⟨rfl, y, rfl, this⟩

set_option maxRecDepth 100000 in
set_option maxHeartbeats 1000000 in
theorem sclone_calls {g o cap : Nat} {xs : List Int} {R : List HP} {w : World} (hl : xs.length ≤ 256) (hrd : Reads R (.slice (some ⟨g, o, none⟩) xs.length cap) xs.length 1 (xs.map iv)) (H : Sep w R) :
    Calls Try.prog 51 #[.slice (some ⟨g, o, none⟩) xs.length cap] w (Gives fun r w' => Sep w' (HP.row 3 1 r xs.length (xs.map iv) :: R)) := by
  have h63 : 0 + xs.length ≤ maxLen := by unfold maxLen; omega
  have hby : (0 + xs.length) * 8 ≤ 140737488355328 := by omega
  have hnil := fun w1 => Lib.run_eql_slice_nil (P := Try.prog) w1 22 3 (some ⟨g, o, none⟩) xs.length cap 0 0 rfl
  have HE : Sep (w.alloc (.cells #[] 3)) (HP.row 3 1 (.slice (some ⟨w.heap.size, 0, none⟩) 0 0) 0 [] :: R) :=
    Sep.row_shut (H.alloc #[] 3) (Nat.le_refl _) (by unfold maxLen; omega) rfl rfl
  have hrd1 := hrd _ HE.tail
  go_enter Try.func51, Try.ntmps51
  go_wp2_with ((at_builtin; go_must (refine wpList_append_src rfl (.tmp 5) (.tmp 6) 22 rfl 3 (.int .i64 0) 1 8 Try.underlying22 info_iv rfl (by decide) (.slice (some ⟨w.heap.size, 0, none⟩) 0 0) 0 [] rfl HE (.slice (some ⟨g, o, none⟩) xs.length cap) _ _ rfl hrd1 (iv_one _) h63 hby ?_); intro v3 w3 H3; rw [Nat.zero_add, List.nil_append] at H3; obtain ⟨va, vc, hv3⟩ := H3.row_form; subst hv3))
  go_ret
  exact ⟨_, rfl, H3⟩

/-- What New gives. -/
def NewPost (xs : List Int) (R : List HP) (r : Value) (w' : World) : Prop :=
  (tabErr xs ≠ 0 ∧ r = .tuple #[.pointer none, .int .i64 (tabErr xs : Int)] ∧ Sep w' R) ∨
  (tabErr xs = 0 ∧ ∃ b, r = .tuple #[.pointer (some ⟨b, 0, none⟩), .int .i64 0] ∧ Sep w' (Tbl b xs :: R))

set_option maxRecDepth 100000 in
set_option maxHeartbeats 1000000 in
theorem new_calls {v : Value} {xs : List Int} {R : List HP} {w : World} (hrd : Reads R v xs.length 1 (xs.map iv)) (H : Sep w R) :
    Calls Try.prog 19 #[v] w (Gives (NewPost xs R)) := by
  have hr0 := hrd w H
  by_cases h0 : xs.length < 1
  · have he : tabErr xs = 1 := by unfold tabErr; rw [if_pos (.inl h0)]
    obtain ⟨a, cap, rfl⟩ := hr0.form
    have h0' : ((xs.length : Int) == 0) = true := by rw [beq_iff_eq]; omega
    have HE := Lib.hid he
    clear he
    go_enter Try.func19, Try.ntmps19
    go_wp2_with fail
    go_ret2
    exact ⟨_, rfl, .inl ⟨by rw [HE.out]; decide, by rw [HE.out]; rfl, H⟩⟩
  have hne : ((xs.length : Int) == 0) = false := by rw [beq_eq_false_iff_ne]; omega
  by_cases h1 : 256 < xs.length
  · have he : tabErr xs = 1 := by unfold tabErr; rw [if_pos (.inr h1)]
    obtain ⟨a, cap, rfl⟩ := hr0.form
    have HE := Lib.hid he
    clear he
    go_enter Try.func19, Try.ntmps19
    go_wp2_with fail
    go_ret2
    exact ⟨_, rfl, .inl ⟨by rw [HE.out]; decide, by rw [HE.out]; rfl, H⟩⟩
  obtain ⟨g, o, cap, rfl⟩ := hr0.open (by omega)
  have hl : xs.length ≤ 256 := by omega
  by_cases h2 : ∀ x ∈ xs, 1 ≤ x
  · have HC := Lib.hid (fun (w1 : World) => sclone_calls (w := w1) hl hrd)
    have HRD := Lib.hid hrd
    have HCB : Hid (∀ t, t ≤ xs.length → 0 ≤ capSum (xs.take t) ∧ capSum (xs.take t) ≤ 16777472) := Lib.hid fun t ht => by
      have := capSum_bnd (l := xs.take t) (fun x hx => h2 x (List.mem_of_mem_take hx))
      have h3 : (xs.take t).length ≤ 256 := by rw [List.length_take]; omega
      omega
    have HBIG := Lib.hid (capSum_big h2)
    have H2 := Lib.hid h2
    clear h2 hrd
    go_enter Try.func19, Try.ntmps19
    go_wp2_with fail
    refine (min_calls (by omega) hl hr0).mono ?_
    rintro e w1 ⟨rfl, m, rfl, hm⟩
    have hm1 := hm.2 H2.out
    clear hm
    go_wp2_with fail
    refine (HC.out _ H).mono ?_
    rintro e w1 ⟨v, rfl, H1⟩
    clear H hr0
    obtain ⟨ra, rc, rfl⟩ := H1.row_form
    have H3 := H1.alloc #[.slice ra xs.length rc, .int .i64 0] 81
    go_wp2_with fail
    generalize w1.heap.size = b at H3 ⊢
    generalize w1.alloc (.cells #[.slice ra xs.length rc, .int .i64 0] 81) = w2 at H3 ⊢
    go_loopg [6, 24] xs.length (fun gk _ i wr => ∃ t : Nat, Hid (t ≤ xs.length ∧ gk = xs.length - t) ∧ i = .int .i64 (t : Int) ∧ Sep wr (HP.pt b #[.slice ra xs.length rc, .int .i64 (capSum (xs.take t))] 81 :: HP.row 3 1 (.slice ra xs.length rc) xs.length (xs.map iv) :: R))
    case atStart => exact ⟨0, Lib.hid ⟨by omega, rfl⟩, rfl, H3⟩
    case round =>
      clear H3 H1
      obtain ⟨t, hq, rfl, Hr⟩ := hrel
      obtain ⟨q1, q2⟩ := hq.out
      clear hq
      have c1 := Hr.cell 1 rfl
      have f1 := Hr.froz 1
      by_cases c : t < xs.length
      · have c2 : wr.cell? ⟨g, o + t, none⟩ = some (.int .i64 xs[t]) := (HRD.out _ Hr.tail.tail).cell t (iv_get c)
        have hb1 := HCB.out t q1
        have hb2 := HCB.out (t + 1) c
        have hs := capSum_take_succ c
        have hx := H2.out _ (List.getElem_mem c)
        generalize capSum (xs.take t) = X at *
        generalize xs[t] = x at c2 hs hx
        have HS := Lib.hid hs
        rw [hs] at hb2
        clear hs
        have Hn := Hr.set 1 (.int .i64 (X + min x 65537))
        by_cases cm : x ≤ 65537
        · have hmin : min x 65537 = x := by omega
          rw [hmin] at Hn HS hb2
          go_wp2_with fail
          go_roundg (xs.length - (t + 1))
          case rel => exact ⟨t + 1, Lib.hid ⟨by omega, rfl⟩, by go_num, by rw [HS.out]; exact Hn⟩
          case measure => omega
        · have hmin : min x 65537 = 65537 := by omega
          rw [hmin] at Hn HS hb2
          go_wp2_with fail
          go_roundg (xs.length - (t + 1))
          case rel => exact ⟨t + 1, Lib.hid ⟨by omega, rfl⟩, by go_num, by rw [HS.out]; exact Hn⟩
          case measure => omega
      · obtain rfl : t = xs.length := by omega
        rw [List.take_length] at c1 Hr
        by_cases cf : 65536 < capSum xs
        · have he : tabErr xs = 7 := by
            unfold tabErr; rw [if_neg (by omega), if_neg (fun h => h H2.out), if_pos (by have := HBIG.out.1; omega)]
          have HE := Lib.hid he
          clear he
          generalize capSum xs = X at *
          go_wp2_with fail
          go_ret2
          exact ⟨_, rfl, .inl ⟨by rw [HE.out]; decide, by rw [HE.out]; rfl, Hr.tail.tail⟩⟩
        · have hbig := HBIG.out.2 (by omega)
          have he : tabErr xs = 0 := by
            unfold tabErr; rw [if_neg (by omega), if_neg (fun h => h H2.out), if_neg (by omega)]
          have HE := Lib.hid he
          clear he
          rw [hbig] at Hr c1
          rw [hbig] at cf
          clear hbig
          generalize hX : isum xs = X at *
          go_wp2_with fail
          go_ret2
          exact ⟨_, rfl, .inr ⟨HE.out, b, rfl, Tbl.shut (by rw [hX]; exact Hr)⟩⟩
  · have he : tabErr xs = 2 := by unfold tabErr; rw [if_neg (by omega), if_pos h2]
    have HE := Lib.hid he
    have H2 := Lib.hid h2
    clear he h2
    go_enter Try.func19, Try.ntmps19
    go_wp2_with fail
    refine (min_calls (by omega) hl hr0).mono ?_
    rintro e w1 ⟨rfl, m, rfl, hm⟩
    have hm1 : m < 1 := by
      apply Int.not_le.1
      intro h
      exact H2.out (hm.1 h)
    clear hm
    go_wp2_with fail
    go_ret2
    exact ⟨_, rfl, .inl ⟨by rw [HE.out]; decide, by rw [HE.out]; rfl, H⟩⟩

end Go.Proofs.Ytglinpclcmmnbaa
