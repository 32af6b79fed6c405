/- coder: Same, Sum, Right, made; what Encode refuses. -/
import Derived.Test.YtglinpclcmmnbaaCod5
namespace Go.Proofs.Ytglinpclcmmnbaa
open Go.RowKit Go.Shelf

theorem ret_bool4 {a b : Bool} (h : a = b) : Ending.returned (.bool a) = .returned (.bool b) := by rw [h]
theorem take_succ_eq4 {xs ys : List Nat} {k : Nat} (h1 : k < xs.length) (h2 : k < ys.length) (h : xs.take k = ys.take k) (e : xs[k] = ys[k]) : xs.take (k + 1) = ys.take (k + 1) := by
  rw [List.take_succ_eq_append_getElem h1, List.take_succ_eq_append_getElem h2, h, e]
theorem bv_at (l : List Nat) (i : Nat) (h : i < l.length) : (l.map bv)[i]? = some (.int .u8 (l[i] : Int)) := by
  simp [bv, List.getElem?_eq_getElem h]

set_option maxRecDepth 100000 in
set_option maxHeartbeats 2000000 in
theorem bsame_calls {va vb : Value} {xs ys : List Nat} {w : World} (hx : xs.length ≤ 1099511627776) (ha : RdS w va xs.length 1 (xs.map bv)) (hb : RdS w vb ys.length 1 (ys.map bv)) :
    Calls Try.prog 41 #[va, vb] w fun e w' => e = .returned (.bool (decide (xs = ys))) ∧ ∃ n, w' = w.drewN n := by
  obtain ⟨a1, c1, rfl⟩ := ha.form
  obtain ⟨a2, c2, rfl⟩ := hb.form
  by_cases hlen : xs.length = ys.length
  · have hl : ((xs.length : Int) != (ys.length : Int)) = false := by rw [bne_eq_false_iff_eq]; omega
    have HL := Lib.hid hlen; clear hlen
    go_enter Try.func41, Try.ntmps41
    go_wp2_with fail
    go_loopg [5] xs.length (fun gk i wr => ∃ k m : Nat, Hid (k ≤ xs.length ∧ gk = xs.length - k) ∧ i = .int .i64 (k : Int) ∧ wr = w.drewN m ∧ Hid (xs.take k = ys.take k))
    case atStart => exact ⟨0, 0, Lib.hid ⟨by omega, rfl⟩, rfl, rfl, rfl⟩
    case round =>
      obtain ⟨k, m, hq, rfl, rfl, hpre⟩ := hrel
      obtain ⟨hk, q2⟩ := hq.out
      clear hq
      by_cases hlt : k < xs.length
      · have hlt2 : k < ys.length := by have := HL.out; omega
        obtain ⟨g1, o1, d1, he⟩ := ha.open (by omega)
        simp only [Value.slice.injEq, true_and] at he
        obtain ⟨rfl, rfl⟩ := he
        obtain ⟨g2, o2, d2, he⟩ := hb.open (by omega)
        simp only [Value.slice.injEq, true_and] at he
        obtain ⟨rfl, rfl⟩ := he
        have k1 : w.cell? ⟨g1, o1 + k, none⟩ = some (.int .u8 (xs[k] : Int)) := ha.cell _ (bv_at _ _ hlt)
        have k2 : w.cell? ⟨g2, o2 + k, none⟩ = some (.int .u8 (ys[k] : Int)) := hb.cell _ (bv_at _ _ hlt2)
        by_cases heq : xs[k] = ys[k]
        · have hne : ((xs[k] : Int) != (ys[k] : Int)) = false := by rw [bne_eq_false_iff_eq]; omega
          have HE := Lib.hid heq; clear heq
          generalize hA : xs[k] = A at *
          generalize hB : ys[k] = B at *
          have hi1 : (k : Int) < (xs.length : Int) := by omega
          have hi2 : (k : Int) < (ys.length : Int) := by omega
          have HA := Lib.hid hA
          have HB := Lib.hid hB
          clear hA hB
          go_wp2_with fail
          (refine wp_region_quiet_lit (by kernel_rfl) (by kernel_rfl) ?_; (repeat (first | go_big_quiet_skip | (go_big_quiet_want; go_big_quiet_op; (try go_bits); first | go_big_quiet_on | go_big_quiet_call (fail)))); refine wpQuiet_nil ?_; intro _ hw'; obtain ⟨nq, hw''⟩ := hw'; subst hw'')
          rw [World.drewN_drewN]
          go_wp2_with fail
          go_roundg (xs.length - (k + 1))
          case rel => exact ⟨k + 1, m + nq, Lib.hid ⟨by omega, rfl⟩, by go_num, rfl, Lib.hid (take_succ_eq4 hlt hlt2 hpre.out (HA.out.trans (HE.out.trans HB.out.symm)))⟩
          case measure => omega
        · have hne : ((xs[k] : Int) != (ys[k] : Int)) = true := by rw [bne_iff_ne]; omega
          have HE := Lib.hid heq; clear heq
          generalize hA : xs[k] = A at *
          generalize hB : ys[k] = B at *
          have hi1 : (k : Int) < (xs.length : Int) := by omega
          have hi2 : (k : Int) < (ys.length : Int) := by omega
          have HA := Lib.hid hA
          have HB := Lib.hid hB
          clear hA hB
          go_wp2_with fail
          (refine wp_region_quiet_lit (by kernel_rfl) (by kernel_rfl) ?_; (repeat (first | go_big_quiet_skip | (go_big_quiet_want; go_big_quiet_op; (try go_bits); first | go_big_quiet_on | go_big_quiet_call (fail)))); refine wpQuiet_nil ?_; intro _ hw'; obtain ⟨nq, hw''⟩ := hw'; subst hw'')
          rw [World.drewN_drewN]
          go_wp2_with fail
          go_ret
          refine ⟨ret_bool4 ?_, _, rfl⟩
          have : xs ≠ ys := by
            intro e
            subst e
            exact HE.out (HA.out.symm.trans HB.out)
          exact (decide_eq_false this).symm
      · go_wp2_with fail
        go_ret
        refine ⟨ret_bool4 ?_, m, rfl⟩
        have h1 := hpre.out
        have h2 := HL.out
        rw [List.take_of_length_le (by omega), List.take_of_length_le (by omega)] at h1
        exact (decide_eq_true h1).symm
  · have hl : ((xs.length : Int) != (ys.length : Int)) = true := by rw [bne_iff_ne]; omega
    have hd : decide (xs = ys) = false := decide_eq_false fun e => hlen (by rw [e])
    rw [hd]
    clear hd
    go_enter Try.func41, Try.ntmps41
    go_wp2_with fail
    go_ret
    exact ⟨rfl, 0, rfl⟩

set_option maxRecDepth 100000 in
set_option maxHeartbeats 1000000 in
theorem rsum_calls {v : Value} {xs : List Int} {k : Nat} {w : World} (hk : k ≤ xs.length) (hp : ∀ x ∈ xs, 1 ≤ x) (hs : isum xs ≤ 1073741824) (hrd : RdS w v xs.length 1 (xs.map iv)) :
    Calls Try.prog 57 #[v, .int .i64 (k : Int)] w fun e w' => e = .returned (.int .i64 (isum (xs.take k))) ∧ w = w' := by
  obtain ⟨a, cap, rfl⟩ := hrd.form
  have HL : Hid (∀ t, 0 ≤ isum (xs.take t) ∧ isum (xs.take t) ≤ 1073741824) := Lib.hid fun t => ⟨isum_take_nonneg hp t, by have := isum_take_le hp t; omega⟩
  have hlen : (xs.length : Int) ≤ 1073741824 := by have := isum_nonneg hp; omega
  clear hp hs
  go_enter Try.func57, Try.ntmps57
  go_wp2_with fail
  go_loopg [5, 6] k (fun gk n i wr => wr = w ∧ ∃ t : Nat, Hid (t ≤ k ∧ gk = k - t) ∧ n = .int .i64 (isum (xs.take t)) ∧ i = .int .i64 (t : Int))
  case atStart => exact ⟨rfl, 0, Lib.hid ⟨by omega, rfl⟩, rfl, rfl⟩
  case round =>
    obtain ⟨rfl, t, hq, rfl, rfl⟩ := hrel
    obtain ⟨q1, q2⟩ := hq.out
    clear hq
    by_cases c : t < k
    · have cx : t < xs.length := by omega
      obtain ⟨g, o, cap', he⟩ := hrd.open (by omega)
      simp only [Value.slice.injEq, true_and] at he
      obtain ⟨rfl, rfl⟩ := he
      have c1 : wr.cell? ⟨g, o + t, none⟩ = some (.int .i64 xs[t]) := hrd.cell t (iv_get cx)
      have hs := isum_take_succ cx
      have b1 := HL.out t
      have b2 := HL.out (t + 1)
      rw [hs] at b2
      have HS := Lib.hid hs
      clear hs
      generalize isum (xs.take t) = X at *
      generalize xs[t] = x at c1 b2 HS
      go_wp2_with fail
      go_roundg (k - (t + 1))
      case rel => exact ⟨rfl, t + 1, Lib.hid ⟨by omega, rfl⟩, by rw [HS.out], by go_num⟩
      case measure => omega
    · obtain rfl : t = k := by omega
      go_wp2_with fail
      go_ret
      exact ⟨rfl, rfl⟩

/-- May a step come? -/
def RightS (cs : List Int) (s : Int) : Prop := Vt cs ∧ 0 ≤ s ∧ s < (cs.length : Int)
instance (cs : List Int) : Decidable (Vt cs) := by unfold Vt; exact inferInstance
instance (cs : List Int) (s : Int) : Decidable (RightS cs s) := by unfold RightS; exact inferInstance
theorem isum_le_mul {l : List Int} (h : ∀ x ∈ l, x ≤ 65536) : isum l ≤ 65536 * (l.length : Int) := by
  induction l with
  | nil => simp [isum]
  | cons x l ih =>
    have h1 := h x (by simp)
    have h2 := ih (fun y hy => h y (by simp [hy]))
    simp only [isum, List.length_cons]
    omega
theorem le_isum {l : List Int} (hp : ∀ x ∈ l, 1 ≤ x) : ∀ x ∈ l, x ≤ isum l := by
  induction l with
  | nil => intro x hx; cases hx
  | cons y l ih =>
    intro x hx
    have h2 := isum_nonneg (l := l) (fun z hz => hp z (by simp [hz]))
    simp only [isum]
    rcases List.mem_cons.1 hx with rfl | hx
    · omega
    · have := ih (fun z hz => hp z (by simp [hz])) x hx
      have := hp y (by simp)
      omega

set_option maxRecDepth 100000 in
set_option maxHeartbeats 4000000 in
theorem right_calls {v : Value} {cs : List Int} {s : Int} {F : List HP} {w : World} (hlen : cs.length ≤ 1000000) (hrd : Reads F v cs.length 1 (cs.map iv)) (H : Sep w F) :
    Calls Try.prog 49 #[.agg #[v, .int .i64 s]] w fun e w' => e = .returned (.bool (decide (RightS cs s))) ∧ Sep w' F := by
  obtain ⟨a, cap, rfl⟩ := (hrd w H).form
  have H1 := H.alloc #[.slice a cs.length cap, .int .i64 s] 58
  have c0 := H1.cell 0 rfl
  have c1 := H1.cell 1 rfl
  have hrd1 := hrd _ H1.tail
  have H2 := H1.tail
  clear H1 hrd H
  by_cases h0 : cs.length < 1
  · have he : decide (RightS cs s) = false := decide_eq_false fun h => by have := h.1.1; omega
    rw [he]
    clear he
    go_enter Try.func49, Try.ntmps49
    go_wp2_with fail
    go_ret
    exact ⟨rfl, H2⟩
  by_cases h1 : 256 < cs.length
  · have he : decide (RightS cs s) = false := decide_eq_false fun h => by have := h.1.2.1; omega
    rw [he]
    clear he
    go_enter Try.func49, Try.ntmps49
    go_wp2_with fail
    go_ret
    exact ⟨rfl, H2⟩
  by_cases h2 : s < 0
  · have he : decide (RightS cs s) = false := decide_eq_false fun h => by have := h.2.1; omega
    rw [he]
    clear he
    go_enter Try.func49, Try.ntmps49
    go_wp2_with fail
    go_ret
    exact ⟨rfl, H2⟩
  by_cases h3 : (cs.length : Int) ≤ s
  · have he : decide (RightS cs s) = false := decide_eq_false fun h => by have := h.2.2; omega
    rw [he]
    clear he
    go_enter Try.func49, Try.ntmps49
    go_wp2_with fail
    go_ret
    exact ⟨rfl, H2⟩
  go_enter Try.func49, Try.ntmps49
  go_wp2_with fail
  generalize hW : w.alloc (.cells #[.slice a cs.length cap, .int .i64 s] 58) = W at *
  clear hW
  go_loopg [3] cs.length (fun gk i wr => wr = W ∧ ∃ t : Nat, Hid (t ≤ cs.length ∧ gk = cs.length - t) ∧ Hid (∀ x ∈ cs.take t, 1 ≤ x ∧ x ≤ 65536) ∧ i = .int .i64 (t : Int))
  case atStart => exact ⟨rfl, 0, Lib.hid ⟨by omega, rfl⟩, Lib.hid (by simp), rfl⟩
  case round =>
    obtain ⟨rfl, t, hq, hh, rfl⟩ := hrel
    obtain ⟨q1, q2⟩ := hq.out
    clear hq
    by_cases c : t < cs.length
    · obtain ⟨g, o, cap', he⟩ := hrd1.open (by omega)
      simp only [Value.slice.injEq, true_and] at he
      obtain ⟨rfl, rfl⟩ := he
      have k1 : wr.cell? ⟨g, o + t, none⟩ = some (.int .i64 cs[t]) := hrd1.cell t (iv_get c)
      have HT := Lib.hid (List.take_succ_eq_append_getElem c)
      have HM := Lib.hid (List.getElem_mem c)
      have hti : (t : Int) < (cs.length : Int) := by omega
      generalize cs[t] = x at k1 HT HM
      by_cases cx : x < 1
      · have he : decide (RightS cs s) = false := decide_eq_false fun h => by have := h.1.2.2.1 x HM.out; omega
        have HE := Lib.hid he
        clear he
        go_wp2_with fail
        go_ret
        rw [HE.out]
        exact ⟨rfl, H2⟩
      · by_cases cy : 65536 < x
        · have he : decide (RightS cs s) = false := decide_eq_false fun h => by
            have := le_isum h.1.2.2.1 x HM.out
            have := h.1.2.2.2
            omega
          have HE := Lib.hid he
          clear he
          go_wp2_with fail
          go_ret
          rw [HE.out]
          exact ⟨rfl, H2⟩
        · have HN : Hid (∀ y ∈ cs.take (t + 1), 1 ≤ y ∧ y ≤ 65536) := Lib.hid (by
            rw [HT.out]
            intro y hy
            rcases List.mem_append.1 hy with hy | hy
            · exact hh.out y hy
            · have : y = x := by simpa using hy
              omega)
          go_wp2_with fail
          go_roundg (cs.length - (t + 1))
          case rel => exact ⟨rfl, t + 1, Lib.hid ⟨by omega, rfl⟩, HN, by go_num⟩
          case measure => omega
    · obtain rfl : t = cs.length := by omega
      have hall := hh.out
      rw [List.take_length] at hall
      have hbig := isum_le_mul fun x hx => (hall x hx).2
      have SM := rsum_calls (k := cs.length) (Nat.le_refl _) (fun x hx => (hall x hx).1) (by omega) hrd1
      rw [List.take_length] at SM
      have he : decide (RightS cs s) = decide (isum cs ≤ 65536) := decide_eq_decide.2 ⟨fun h => h.1.2.2.2, fun h => ⟨⟨by omega, by omega, fun x hx => (hall x hx).1, h⟩, by omega, by omega⟩⟩
      have HE := Lib.hid he
      clear he hall hbig hh
      go_wp2_with fail
      refine SM.mono ?_
      rintro _ _ ⟨rfl, rfl⟩
      go_wp2_with fail
      go_ret
      rw [HE.out]
      exact ⟨rfl, H2⟩

set_option maxRecDepth 100000 in
set_option maxHeartbeats 1000000 in
theorem made_calls {v : Value} {cs : List Int} {F : List HP} {w : World} (hv : Vt cs) (hrd : Reads F v cs.length 1 (cs.map iv)) (H : Sep w F) :
    Calls Try.prog 39 #[v] w (Gives fun r w' => ∃ b, r = .pointer (some ⟨b, 0, none⟩) ∧ Sep w' (Tbl b cs :: F)) := by
  obtain ⟨a, cap, rfl⟩ := (hrd w H).form
  have h0 := tabErr_of hv
  go_enter Try.func39, Try.ntmps39
  go_wp2_with fail
  refine (new_calls hrd H).mono ?_
  rintro e w1 ⟨r, rfl, ⟨hne, -, -⟩ | ⟨-, b, rfl, H2⟩⟩
  · exact absurd h0 hne
  clear h0
  go_wp2_with fail
  go_ret
  exact ⟨_, rfl, _, rfl, H2⟩

set_option maxRecDepth 100000 in
set_option maxHeartbeats 1000000 in
theorem encode_range {b q : Nat} {s : Int} {x : Nat × Nat × Nat} {cs : List Int} {F : List HP} {w : World} (hv : Vt cs) (hs : s < 0 ∨ (cs.length : Int) ≤ s) (H : Sep w (EncI q x :: Tbl b cs :: F)) :
    Calls Try.prog 38 #[.pointer (some ⟨q, 0, none⟩), .pointer (some ⟨b, 0, none⟩), .int .i64 s] w fun e w' => e = .returned (.int .i64 2) ∧ w = w' := by
  have S1 := symbols_calls H.swap
  have hl := hv.1
  have h1 : ((cs.length : Int) == 0) = false := by simp; intro h; subst h; exact absurd hl (by simp)
  have h2 : ¬ cs = [] := by intro h; subst h; exact absurd hl (by simp)
  clear H hv
  by_cases h0 : s < 0
  · go_enter Try.func38, Try.ntmps38
    go_wp2_with fail
    refine S1.mono ?_
    rintro _ _ ⟨rfl, rfl⟩
    go_wp2_with fail
    go_ret
    exact ⟨rfl, rfl⟩
  · have h3 : (cs.length : Int) ≤ s := by omega
    go_enter Try.func38, Try.ntmps38
    go_wp2_with fail
    refine S1.mono ?_
    rintro _ _ ⟨rfl, rfl⟩
    go_wp2_with fail
    refine S1.mono ?_
    rintro _ _ ⟨rfl, rfl⟩
    go_wp2_with fail
    go_ret
    exact ⟨rfl, rfl⟩

set_option maxRecDepth 100000 in
theorem encode_tnil {q : Nat} {s : Int} {w : World} :
    Calls Try.prog 38 #[.pointer (some ⟨q, 0, none⟩), .pointer none, .int .i64 s] w fun e w' => e = .returned (.int .i64 1) ∧ w = w' := by
  go_enter Try.func38, Try.ntmps38
  go_wp2_with fail
  go_ret
  exact ⟨rfl, rfl⟩

end Go.Proofs.Ytglinpclcmmnbaa
