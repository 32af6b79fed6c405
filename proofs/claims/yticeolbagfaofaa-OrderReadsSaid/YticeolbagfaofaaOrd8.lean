/- Reference 25: Right; the law's 'ints'. -/
import Derived.Test.YticeolbagfaofaaOrd7
namespace Go.Proofs.Yticeolbagfaofaa
open Go.RowKit

set_option maxRecDepth 100000 in
set_option maxHeartbeats 1000000 in
theorem rright_calls {v : Value} {xs : List Int} {w : World} (hlen : xs.length ≤ 1000) (hrd : RdS w v xs.length 1 (xs.map iv)) :
    Calls Try.prog 12 #[v] w fun e w' => e = .returned (.bool (rightB xs)) ∧ ∃ n, w' = w.drewN n := by
  obtain ⟨a, cap, rfl⟩ := hrd.form
  have HRD : Hid (∀ n, RdS (w.drewN n) (.slice a xs.length cap) xs.length 1 (xs.map iv)) := Lib.hid fun n => hrd
  clear hrd
  go_enter Try.func12, Try.ntmps12
  go_wp2_with fail
  go_loopg [3, 4] xs.length (fun gk i _ wr => ∃ n t : Nat, wr = w.drewN n ∧ Hid (t ≤ xs.length ∧ gk = xs.length - t) ∧ Hid ((∀ x ∈ xs.take t, 0 ≤ x ∧ x < xs.length) ∧ (xs.take t).Nodup) ∧ i = .int .i64 (t : Int))
  case atStart => exact ⟨0, 0, (World.drewN_zero w).symm, Lib.hid ⟨by omega, rfl⟩, Lib.hid ⟨by simp, by simp⟩, rfl⟩
  case round =>
    obtain ⟨n, t, rfl, hq, hh, rfl⟩ := hrel
    obtain ⟨q1, q2⟩ := hq.out
    clear hq
    by_cases c : t < xs.length
    · obtain ⟨g, o, cap', he⟩ := (HRD.out n).open (by omega)
      simp only [Value.slice.injEq, true_and] at he
      obtain ⟨rfl, rfl⟩ := he
      have C1 : Hid (∀ j (hj : j < xs.length) k, ((w.drewN n).drewN k).cell? ⟨g, o + j, none⟩ = some (.int .i64 xs[j])) := Lib.hid fun j hj k => by rw [World.drewN_drewN]; exact (HRD.out _).cell j (iv_get hj)
      have hc : (w.drewN n).cell? ⟨g, o + t, none⟩ = some (.int .i64 xs[t]) := (HRD.out n).cell t (iv_get c)
      have HT := Lib.hid (List.take_succ_eq_append_getElem c)
      have HM := Lib.hid (List.getElem_mem c)
      have HX := Lib.hid (rfl : xs[t] = xs[t])
      generalize hx : xs[t] = x at hc HT HM
      have HXT := Lib.hid hx
      clear hx HX
      generalize hW : w.drewN n = W at hc C1 ⊢
      have HW := Lib.hid hW
      clear hW
      by_cases c1 : x < 0
      · have hb : rightB xs = false := by
          unfold rightB
          exact decide_eq_false (fun h => by have := h.1 x HM.out; omega)
        have HB := Lib.hid hb
        clear hb
        go_wp2_with fail
        go_ret
        rw [HB.out]
        exact ⟨rfl, n, HW.out.symm⟩
      by_cases c2 : (xs.length : Int) ≤ x
      · have hb : rightB xs = false := by
          unfold rightB
          exact decide_eq_false (fun h => by have := h.1 x HM.out; omega)
        have HB := Lib.hid hb
        clear hb
        go_wp2_with fail
        go_ret
        rw [HB.out]
        exact ⟨rfl, n, HW.out.symm⟩
      go_wp2_with fail
      go_loopg [4] t (fun gk k wr => ∃ m u : Nat, wr = W.drewN m ∧ Hid (u ≤ t ∧ gk = t - u) ∧ Hid (∀ j (hj : j < xs.length), j < u → xs[j] ≠ x) ∧ k = .int .i64 (u : Int))
      case atStart => exact ⟨0, 0, rfl, Lib.hid ⟨by omega, rfl⟩, Lib.hid (fun j _ h => absurd h (by omega)), rfl⟩
      case round =>
        obtain ⟨m, u, rfl, hq, hn, rfl⟩ := hrel
        obtain ⟨q3, q4⟩ := hq.out
        clear hq
        by_cases cu : u < t
        · have hul : u < xs.length := by omega
          have hcu : (W.drewN m).cell? ⟨g, o + u, none⟩ = some (.int .i64 xs[u]) := C1.out u hul m
          have hct : (W.drewN m).cell? ⟨g, o + t, none⟩ = some (.int .i64 x) := by have := C1.out t c m; rwa [HXT.out] at this
          have HNU := Lib.hid (fun (hne : xs[u] ≠ x) => fun j (hj : j < xs.length) (h : j < u + 1) => show xs[j] ≠ x from by
            by_cases e : j = u
            · subst e; exact hne
            · exact hn.out j hj (by omega))
          have HUM : Hid (xs[u] ∈ xs.take t) := Lib.hid (List.mem_take_iff_getElem.2 ⟨u, by omega, rfl⟩)
          generalize xs[u] = y at hcu HNU HUM
          generalize hV : W.drewN m = V at hcu hct ⊢
          have HV := Lib.hid hV
          clear hV hn
          by_cases ce : x = y
          · subst ce
            have hb : rightB xs = false := by
              unfold rightB
              refine decide_eq_false (fun h => ?_)
              have h2 := h.2
              rw [← List.take_append_drop (t + 1) xs, HT.out] at h2
              have h3 := (List.nodup_append.1 (List.nodup_append.1 h2).1).2.2 _ HUM.out x (by simp)
              exact h3 rfl
            have HB := Lib.hid hb
            clear hb HNU
            go_wp2_with fail
            (refine wp_region_quiet_lit (by kernel_rfl) (by kernel_rfl) ?_; (repeat (first | go_big_quiet_skip | (go_big_quiet_want; go_big_quiet_op; (try go_bits); first | go_big_quiet_on | go_big_quiet_call ((fail))))); refine wpQuiet_nil ?_; intro _ hw'; obtain ⟨nq, hw''⟩ := hw'; subst hw'')
            go_wp2_with fail
            go_ret
            rw [HB.out]
            exact ⟨rfl, n + (m + nq), by rw [← HV.out, ← HW.out, World.drewN_drewN, World.drewN_drewN]⟩
          · have hne : ((x : Int) == y) = false := beq_eq_false_iff_ne.2 ce
            have HNE := Lib.hid (fun h : y = x => ce h.symm)
            clear ce
            go_wp2_with fail
            (refine wp_region_quiet_lit (by kernel_rfl) (by kernel_rfl) ?_; (repeat (first | go_big_quiet_skip | (go_big_quiet_want; go_big_quiet_op; (try go_bits); first | go_big_quiet_on | go_big_quiet_call ((fail))))); refine wpQuiet_nil ?_; intro _ hw'; obtain ⟨nq, hw''⟩ := hw'; subst hw'')
            go_wp2_with fail
            go_roundg (t - (u + 1))
            case rel => exact ⟨m + nq, u + 1, by rw [← HV.out, World.drewN_drewN], Lib.hid ⟨by omega, rfl⟩, Lib.hid (HNU.out HNE.out), by go_num⟩
            case measure => omega
        · have hN : (∀ x ∈ xs.take (t + 1), 0 ≤ x ∧ x < xs.length) ∧ (xs.take (t + 1)).Nodup := by
            rw [HT.out]
            refine ⟨fun z hz => ?_, ?_⟩
            · rcases List.mem_append.1 hz with hz | hz
              · exact hh.out.1 z hz
              · have : z = x := by simpa using hz
                omega
            · rw [List.nodup_append]
              refine ⟨hh.out.2, by simp, fun a ha b hb => ?_⟩
              have hbx : b = x := by simpa using hb
              subst hbx
              obtain ⟨j, hj, hje⟩ := List.mem_take_iff_getElem.1 ha
              rw [← hje]
              exact hn.out j (by omega) (by omega)
          have HN := Lib.hid hN
          clear hN hn hh
          go_wp2_with fail
          go_roundg (xs.length - (t + 1))
          case rel => exact ⟨n + m, t + 1, by rw [← HW.out, World.drewN_drewN], Lib.hid ⟨by omega, rfl⟩, HN, by go_num⟩
          case measure => omega
    · have hb : rightB xs = true := by
        have h := hh.out
        rw [List.take_of_length_le (by omega)] at h
        unfold rightB
        exact decide_eq_true h
      have HB := Lib.hid hb
      clear hb hh
      go_wp2_with fail
      go_ret
      rw [HB.out]
      exact ⟨rfl, n, rfl⟩

set_option maxRecDepth 100000 in
set_option maxHeartbeats 1000000 in
theorem ints_same {v u : Value} {xs : List Int} {w : World} (hlen : xs.length ≤ 100000) (hrd : RdS w v xs.length 1 (xs.map iv)) (hrd2 : RdS w u xs.length 1 (xs.map iv)) :
    Calls Try.prog 19 #[v, u] w fun e w' => e = .returned (.bool true) ∧ ∃ n, w' = w.drewN n := by
  obtain ⟨a, cap, rfl⟩ := hrd.form
  obtain ⟨a2, cap2, rfl⟩ := hrd2.form
  have HRD : Hid (∀ n, RdS (w.drewN n) (.slice a xs.length cap) xs.length 1 (xs.map iv)) := Lib.hid fun n => hrd
  have HRD2 : Hid (∀ n, RdS (w.drewN n) (.slice a2 xs.length cap2) xs.length 1 (xs.map iv)) := Lib.hid fun n => hrd2
  clear hrd hrd2
  go_enter Try.func19, Try.ntmps19
  go_wp2_with fail
  go_loopg [5, 13] xs.length (fun gk _ i wr => ∃ n t : Nat, wr = w.drewN n ∧ Hid (t ≤ xs.length ∧ gk = xs.length - t) ∧ i = .int .i64 (t : Int))
  case atStart => exact ⟨0, 0, (World.drewN_zero w).symm, Lib.hid ⟨by omega, rfl⟩, rfl⟩
  case round =>
    obtain ⟨n, t, rfl, hq, rfl⟩ := hrel
    obtain ⟨q1, q2⟩ := hq.out
    clear hq
    by_cases c : t < xs.length
    · obtain ⟨g, o, cap', he⟩ := (HRD.out n).open (by omega)
      simp only [Value.slice.injEq, true_and] at he
      obtain ⟨rfl, rfl⟩ := he
      obtain ⟨g2, o2, cap2', he⟩ := (HRD2.out n).open (by omega)
      simp only [Value.slice.injEq, true_and] at he
      obtain ⟨rfl, rfl⟩ := he
      have c1 : (w.drewN n).cell? ⟨g, o + t, none⟩ = some (.int .i64 xs[t]) := (HRD.out n).cell t (iv_get c)
      have c2 : (w.drewN n).cell? ⟨g2, o2 + t, none⟩ = some (.int .i64 xs[t]) := (HRD2.out n).cell t (iv_get c)
      generalize xs[t] = x at c1 c2
      generalize hW : w.drewN n = W at c1 c2 ⊢
      have HW := Lib.hid hW
      clear hW
      go_wp2_with fail
      (refine wp_region_quiet_lit (by kernel_rfl) (by kernel_rfl) ?_; (repeat (first | go_big_quiet_skip | (go_big_quiet_want; go_big_quiet_op; (try go_bits); first | go_big_quiet_on | go_big_quiet_call ((fail))))); refine wpQuiet_nil ?_; intro _ hw'; obtain ⟨nq, hw''⟩ := hw'; subst hw'')
      go_wp2_with fail
      go_roundg (xs.length - (t + 1))
      case rel => exact ⟨n + nq, t + 1, by rw [← HW.out, World.drewN_drewN], Lib.hid ⟨by omega, rfl⟩, by go_num⟩
      case measure => omega
    · go_wp2_with fail
      go_ret
      exact ⟨rfl, n, rfl⟩

end Go.Proofs.Yticeolbagfaofaa
