/- Reference 03: Find, Bump; the law's 'same'. -/
import Derived.Test.YtglinpclcmmnbaaTab6
namespace Go.Proofs.Ytglinpclcmmnbaa
open Go.RowKit

set_option maxRecDepth 100000 in
set_option maxHeartbeats 1000000 in
theorem rfind_calls {v : Value} {xs : List Int} {x : Int} {w : World} (hfit : Fits v) (hv : Vt xs) (hx1 : x ≤ 9223372036854775807) (hrd : RdS w v xs.length 1 (xs.map iv)) :
    Calls Try.prog 22 #[v, .int .i64 x] w fun e w' => e = .returned (.tuple #[.int .i64 (findI xs x : Int), .bool (decide (0 ≤ x ∧ x < isum xs))]) ∧ ∃ n, w' = w.drewN n := by
  obtain ⟨a, cap, rfl⟩ := hrd.form
  have hlen := hv.2.1
  have HV := Lib.hid hv
  have HRD : Hid (∀ n, RdS (w.drewN n) (.slice a xs.length cap) xs.length 1 (xs.map iv)) := Lib.hid fun n => hrd
  have HLOW : Hid (∀ (i : Int) n, Calls Try.prog 25 #[.slice a xs.length cap, .int .i64 i] (w.drewN n) fun e w' => e = .returned (.int .i64 (lowI xs i)) ∧ w' = w.drewN n) := Lib.hid fun i n =>
    (rlow_calls hfit hv.2.2.1 (by have := hv.2.2.2; omega) (HRD.out n)).mono fun _ _ h => ⟨h.1, h.2.symm⟩
  clear hv
  go_enter Try.func22, Try.ntmps22
  go_wp2_with fail
  go_loopg [6] xs.length (fun gk i wr => ∃ n t : Nat, wr = w.drewN n ∧ Hid (t ≤ xs.length ∧ gk = xs.length - t ∧ (x < 0 ∨ isum (xs.take t) ≤ x)) ∧ i = .int .i64 (t : Int))
  case atStart => exact ⟨0, 0, (World.drewN_zero w).symm, Lib.hid ⟨by omega, rfl, by show x < 0 ∨ (0 : Int) ≤ x; omega⟩, rfl⟩
  case round =>
    obtain ⟨n, t, rfl, hq, rfl⟩ := hrel
    obtain ⟨q1, q2, q3⟩ := hq.out
    clear hq
    by_cases c : t < xs.length
    · obtain ⟨g, o, cap', he⟩ := hrd.open (by omega)
      simp only [Value.slice.injEq, true_and] at he
      obtain ⟨rfl, rfl⟩ := he
      have c1 : (w.drewN n).cell? ⟨g, o + t, none⟩ = some (.int .i64 xs[t]) := (HRD.out n).cell t (iv_get c)
      have hlo : lowI xs t = isum (xs.take t) := by unfold lowI; rw [if_pos (by omega), Int.toNat_natCast]
      have HL : Hid (∀ k, Calls Try.prog 25 #[.slice (some ⟨g, o, none⟩) xs.length cap, .int .i64 (t : Int)] ((w.drewN n).drewN k) fun e w' => e = .returned (.int .i64 (isum (xs.take t))) ∧ w' = (w.drewN n).drewN k) := Lib.hid fun k => by have := HLOW.out t (n + k); rwa [hlo, ← World.drewN_drewN] at this
      have hs := isum_take_succ c
      have hin := findOf_in (x := x) HV.out.2.2.1 c
      have b1 := isum_take_nonneg HV.out.2.2.1 t
      have b2 := isum_take_le HV.out.2.2.1 t
      have b3 := isum_take_le HV.out.2.2.1 (t + 1)
      have b4 := HV.out.2.2.2
      have b5 := HV.out.2.2.1 _ (List.getElem_mem c)
      have HIN : Hid (0 ≤ x → isum (xs.take t) ≤ x → x < isum (xs.take (t + 1)) → findI xs x = t ∧ (0 ≤ x ∧ x < isum xs)) := Lib.hid fun h1 h2 h3 => by
        have : findOf xs x = t := hin.2 ⟨h3, .inr h2⟩
        unfold findI
        rw [if_pos ⟨h1, by omega⟩]
        exact ⟨this, h1, by omega⟩
      have HS := Lib.hid hs
      rw [hs] at HIN b3
      clear hlo hs hin
      generalize isum (xs.take t) = X at *
      generalize xs[t] = y at *
      generalize hW : w.drewN n = W at c1 HL ⊢
      have HW := Lib.hid hW
      clear hW
      by_cases hx0 : X ≤ x
      · have d1 : decide (X ≤ x) = true := decide_eq_true hx0
        by_cases hx2 : x < X + y
        · have d2 : decide (x < X + y) = true := decide_eq_true hx2
          go_wp2_with fail
          (refine wp_region_quiet_lit (by kernel_rfl) (by kernel_rfl) ?_; (repeat (first | go_big_quiet_skip | (go_big_quiet_want; go_big_quiet_op; (try go_bits); first | go_big_quiet_on | go_big_quiet_call ((go_at_call 25; exact Calls.quiet_of_same (HL.out _)))))); refine wpQuiet_nil ?_; intro _ hw'; obtain ⟨nq, hw''⟩ := hw'; subst hw'')
          go_wp2_with fail
          go_ret2
          obtain ⟨h1, h2⟩ := HIN.out (by omega) hx0 hx2
          rw [h1, decide_eq_true h2]
          exact ⟨rfl, n + nq, by rw [← HW.out, World.drewN_drewN]⟩
        · have d2 : decide (x < X + y) = false := decide_eq_false hx2
          go_wp2_with fail
          (refine wp_region_quiet_lit (by kernel_rfl) (by kernel_rfl) ?_; (repeat (first | go_big_quiet_skip | (go_big_quiet_want; go_big_quiet_op; (try go_bits); first | go_big_quiet_on | go_big_quiet_call ((go_at_call 25; exact Calls.quiet_of_same (HL.out _)))))); refine wpQuiet_nil ?_; intro _ hw'; obtain ⟨nq, hw''⟩ := hw'; subst hw'')
          go_wp2_with fail
          go_roundg (xs.length - (t + 1))
          case rel => exact ⟨n + nq, t + 1, by rw [← HW.out, World.drewN_drewN], Lib.hid ⟨by omega, rfl, by rw [HS.out]; omega⟩, by go_num⟩
          case measure => omega
      · have d1 : decide (X ≤ x) = false := decide_eq_false hx0
        go_wp2_with fail
        (refine wp_region_quiet_lit (by kernel_rfl) (by kernel_rfl) ?_; (repeat (first | go_big_quiet_skip | (go_big_quiet_want; go_big_quiet_op; (try go_bits); first | go_big_quiet_on | go_big_quiet_call ((go_at_call 25; exact Calls.quiet_of_same (HL.out _)))))); refine wpQuiet_nil ?_; intro _ hw'; obtain ⟨nq, hw''⟩ := hw'; subst hw'')
        go_wp2_with fail
        go_roundg (xs.length - (t + 1))
        case rel => exact ⟨n + nq, t + 1, by rw [← HW.out, World.drewN_drewN], Lib.hid ⟨by omega, rfl, by omega⟩, by go_num⟩
        case measure => omega
    · obtain rfl : t = xs.length := by omega
      rw [List.take_length] at q3
      have hf : findI xs x = 0 := by unfold findI; rw [if_neg (by omega)]
      have hd : decide (0 ≤ x ∧ x < isum xs) = false := decide_eq_false (by omega)
      have HF := Lib.hid (And.intro hf hd)
      clear hf hd
      go_wp2_with fail
      go_ret2
      rw [HF.out.1, HF.out.2]
      exact ⟨rfl, n, rfl⟩

set_option maxRecDepth 100000 in
set_option maxHeartbeats 1000000 in
theorem same_calls {b : Nat} {v : Value} {cs : List Int} {R : List HP} {w : World} (hv : Vt cs) (hrd : RdS w v cs.length 1 (cs.map iv)) (H : Sep w (Tbl b cs :: R)) :
    Calls Try.prog 23 #[.pointer (some ⟨b, 0, none⟩), v] w fun e w' => e = .returned (.int .i64 1) ∧ ∃ n, w' = w.drewN n := by
  obtain ⟨a, cap, rfl⟩ := hrd.form
  have hlen := hv.2.1
  have HV := Lib.hid hv
  have HRD : Hid (∀ n, RdS (w.drewN n) (.slice a cs.length cap) cs.length 1 (cs.map iv)) := Lib.hid fun n => hrd
  have HLOW : Hid (∀ (t n : Nat), t < cs.length → Calls Try.prog 24 #[.pointer (some ⟨b, 0, none⟩), .int .i64 (t : Int)] (w.drewN n) fun e w' => e = .returned (.int .i64 (isum (cs.take t))) ∧ w' = w.drewN n) := Lib.hid fun t n ht => by
    have h := low_calls (i := t) hv (H.drewN n)
    have hlo : lowI cs t = isum (cs.take t) := by unfold lowI; rw [if_pos (by omega), Int.toNat_natCast]
    rw [hlo] at h
    exact h.mono fun _ _ h => ⟨h.1, h.2.symm⟩
  have HCNT : Hid (∀ (t n : Nat) (ht : t < cs.length), Calls Try.prog 26 #[.pointer (some ⟨b, 0, none⟩), .int .i64 (t : Int)] (w.drewN n) fun e w' => e = .returned (.int .i64 cs[t]) ∧ w' = w.drewN n) := Lib.hid fun t n ht => by
    have h := count_calls (i := t) (H.drewN n)
    have hlo : countI cs t = cs[t] := by unfold countI; rw [if_pos (by omega), Int.toNat_natCast, getD_get ht]
    rw [hlo] at h
    exact h.mono fun _ _ h => ⟨h.1, h.2.symm⟩
  clear hv
  go_enter Try.func23, Try.ntmps23
  go_wp2_with fail
  refine (symbols_calls H).mono ?_
  rintro e w1 ⟨rfl, rfl⟩
  go_wp2_with fail
  refine (total_calls H).mono ?_
  rintro e w1 ⟨rfl, rfl⟩
  go_wp2_with fail
  refine (rtotal_calls HV.out.2.2.1 (by have := HV.out.2.2.2; omega) hrd).mono ?_
  rintro e w1 ⟨rfl, rfl⟩
  go_wp2_with fail
  go_loopg [5, 6] cs.length (fun gk lv i wr => ∃ n t : Nat, wr = w.drewN n ∧ Hid (t ≤ cs.length ∧ gk = cs.length - t) ∧ lv = .int .i64 (isum (cs.take t)) ∧ i = .int .i64 (t : Int))
  case atStart => exact ⟨0, 0, (World.drewN_zero w).symm, Lib.hid ⟨by omega, rfl⟩, rfl, rfl⟩
  case round =>
    obtain ⟨n, t, rfl, hq, rfl, rfl⟩ := hrel
    obtain ⟨q1, q2⟩ := hq.out
    clear hq
    by_cases c : t < cs.length
    · obtain ⟨g, o, cap', he⟩ := hrd.open (by omega)
      simp only [Value.slice.injEq, true_and] at he
      obtain ⟨rfl, rfl⟩ := he
      have c1 : (w.drewN n).cell? ⟨g, o + t, none⟩ = some (.int .i64 cs[t]) := (HRD.out n).cell t (iv_get c)
      have C2 : Hid (∀ k, ((w.drewN n).drewN k).cell? ⟨g, o + t, none⟩ = some (.int .i64 cs[t])) := Lib.hid fun k => by rw [World.drewN_drewN]; exact (HRD.out _).cell t (iv_get c)
      have hs := isum_take_succ c
      have HL : Hid (∀ k, Calls Try.prog 24 #[.pointer (some ⟨b, 0, none⟩), .int .i64 (t : Int)] ((w.drewN n).drewN k) fun e w' => e = .returned (.int .i64 (isum (cs.take t))) ∧ w' = (w.drewN n).drewN k) := Lib.hid fun k => by have := HLOW.out t (n + k) c; rwa [← World.drewN_drewN] at this
      have HC : Hid (∀ k, Calls Try.prog 26 #[.pointer (some ⟨b, 0, none⟩), .int .i64 (t : Int)] ((w.drewN n).drewN k) fun e w' => e = .returned (.int .i64 cs[t]) ∧ w' = (w.drewN n).drewN k) := Lib.hid fun k => by have := HCNT.out t (n + k) c; rwa [← World.drewN_drewN] at this
      have b1 := isum_take_nonneg HV.out.2.2.1 t
      have b3 := isum_take_le HV.out.2.2.1 (t + 1)
      have b4 := HV.out.2.2.2
      have HS := Lib.hid hs
      rw [hs] at b3
      have b5 := HV.out.2.2.1 _ (List.getElem_mem c)
      clear hs
      generalize isum (cs.take t) = X at *
      generalize cs[t] = y at *
      generalize hW : w.drewN n = W at c1 C2 HL HC ⊢
      have HW := Lib.hid hW
      clear hW
      go_wp2_with fail
      (refine wp_region_quiet_lit (by kernel_rfl) (by kernel_rfl) ?_; (repeat (first | go_big_quiet_skip | (go_big_quiet_want; go_big_quiet_op; (try go_bits); first | go_big_quiet_on | go_big_quiet_call ((first | (go_at_call 24; exact Calls.quiet_of_same (HL.out _)) | (go_at_call 26; exact Calls.quiet_of_same (HC.out _))))))); refine wpQuiet_nil ?_; intro _ hw'; obtain ⟨nq, hw''⟩ := hw'; subst hw'')
      have c1 := C2.out nq
      go_wp2_with fail
      go_roundg (cs.length - (t + 1))
      case rel => exact ⟨n + nq, t + 1, by rw [← HW.out, World.drewN_drewN], Lib.hid ⟨by omega, rfl⟩, by rw [HS.out], by go_num⟩
      case measure => omega
    · go_wp2_with fail
      go_ret
      exact ⟨rfl, n, rfl⟩

end Go.Proofs.Ytglinpclcmmnbaa
