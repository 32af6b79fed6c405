/- Reference 03: Total, Check, Low, Count, Find, Bump. -/
import Derived.Test.YtglinpclcmmnbaaTab5
namespace Go.Proofs.Ytglinpclcmmnbaa
open Go.RowKit

theorem RdS.take {w : World} {a : Addr} {n cap k : Nat} {xs : List Value} (h : RdS w (.slice (some a) n cap) n 1 xs) (hk : k ≤ n) : RdS w (.slice (some a) k cap) k 1 (xs.take k) := by
  have hl := h.1
  refine ⟨by rw [List.length_take]; omega, .inr ⟨a, cap, rfl, fun j u hu => ?_⟩⟩
  rcases h.2 with ⟨h1, _⟩ | ⟨ad, c, he, hh⟩
  · cases h1
  · simp only [Value.slice.injEq, Option.some.injEq, true_and] at he
    obtain ⟨rfl, rfl⟩ := he
    rw [List.getElem?_take] at hu
    split at hu
    · exact hh j u hu
    · cases hu

/-- A slice is no longer than its room. -/
def Fits (v : Value) : Prop := ∀ a m c, v = .slice a m c → m ≤ c
theorem Sep.row_fits {w : World} {e : TypeId} {size : Nat} {v : Value} {n : Nat} {xs : List Value} {L : List HP} (h : Sep w (HP.row e size v n xs :: L)) : Fits v := by
  intro a m c hv
  by_cases hn : n = 0
  · obtain ⟨a', cap, he⟩ := h.row_form
    rw [he] at hv
    simp only [Value.slice.injEq] at hv
    omega
  · obtain ⟨g, cap, cur, he, h1, _⟩ := h.row_open hn
    rw [he] at hv
    simp only [Value.slice.injEq] at hv
    omega
theorem IsRow.fits {k : IntKind} {w : World} {a : Option Addr} {len cap : Nat} {zs : List Int} (h : IsRow k w a len cap zs) : Fits (.slice a len cap) := by
  intro a' m c hv
  simp only [Value.slice.injEq] at hv
  rcases h with ⟨rfl, rfl, rfl, rfl⟩ | ⟨x, rfl, hl, _⟩ <;> omega

set_option maxRecDepth 100000 in
set_option maxHeartbeats 1000000 in
theorem rtotal_calls {v : Value} {xs : List Int} {w : World} (hp : ∀ x ∈ xs, 1 ≤ x) (hs : isum xs ≤ 1000000) (hrd : RdS w v xs.length 1 (xs.map iv)) :
    Calls Try.prog 31 #[v] w fun e w' => e = .returned (.int .i64 (isum xs)) ∧ w = w' := by
  obtain ⟨a, cap, rfl⟩ := hrd.form
  have HL : Hid (∀ t, 0 ≤ isum (xs.take t) ∧ isum (xs.take t) ≤ 1000000) := Lib.hid fun t => ⟨isum_take_nonneg hp t, by have := isum_take_le hp t; omega⟩
  have hlen : (xs.length : Int) ≤ 1000000 := by have := isum_nonneg hp; omega
  clear hp hs
  go_enter Try.func31, Try.ntmps31
  go_wp2_with fail
  go_loopg [3, 4] xs.length (fun gk n i wr => wr = w ∧ ∃ t : Nat, Hid (t ≤ xs.length ∧ gk = xs.length - t) ∧ n = .int .i64 (isum (xs.take t)) ∧ i = .int .i64 (t : Int))
  case atStart => exact ⟨rfl, 0, Lib.hid ⟨by omega, rfl⟩, rfl, rfl⟩
  case round =>
    obtain ⟨rfl, t, hq, rfl, rfl⟩ := hrel
    obtain ⟨q1, q2⟩ := hq.out
    clear hq
    by_cases c : t < xs.length
    · obtain ⟨g, o, cap', he⟩ := hrd.open (by omega)
      simp only [Value.slice.injEq, true_and] at he
      obtain ⟨rfl, rfl⟩ := he
      have c1 : wr.cell? ⟨g, o + t, none⟩ = some (.int .i64 xs[t]) := hrd.cell t (iv_get c)
      have hs := isum_take_succ c
      have b1 := HL.out t
      have b2 := HL.out (t + 1)
      rw [hs] at b2
      have HS := Lib.hid hs
      clear hs
      generalize isum (xs.take t) = X at *
      generalize xs[t] = x at c1 b2 HS
      go_wp2_with fail
      go_roundg (xs.length - (t + 1))
      case rel => exact ⟨rfl, t + 1, Lib.hid ⟨by omega, rfl⟩, by rw [HS.out], by go_num⟩
      case measure => omega
    · obtain rfl : t = xs.length := by omega
      rw [List.take_length]
      go_wp2_with fail
      go_ret
      exact ⟨rfl, rfl⟩

set_option maxRecDepth 100000 in
set_option maxHeartbeats 1000000 in
theorem rlow_calls {v : Value} {xs : List Int} {i : Int} {w : World} (hfit : Fits v) (hp : ∀ x ∈ xs, 1 ≤ x) (hs : isum xs ≤ 1000000) (hrd : RdS w v xs.length 1 (xs.map iv)) :
    Calls Try.prog 25 #[v, .int .i64 i] w fun e w' => e = .returned (.int .i64 (lowI xs i)) ∧ w = w' := by
  have hlen : (xs.length : Int) ≤ 1000000 := by have := isum_nonneg hp; omega
  by_cases h0 : 0 ≤ i ∧ i < xs.length
  · obtain ⟨k, rfl⟩ := Int.eq_ofNat_of_zero_le h0.1
    have hk : k < xs.length := by omega
    have hr : lowI xs k = isum (xs.take k) := by unfold lowI; rw [if_pos h0, Int.toNat_natCast]
    rw [hr]
    obtain ⟨g, o, cap, rfl⟩ := hrd.open (by omega)
    have ht := hrd.take (k := k) (by omega)
    rw [← List.map_take] at ht
    have hkl : (xs.take k).length = k := by rw [List.length_take]; omega
    have HT := Lib.hid (fun w1 (h : RdS w1 (.slice (some ⟨g, o, none⟩) k cap) k 1 ((xs.take k).map iv)) => rtotal_calls (v := .slice (some ⟨g, o, none⟩) k cap) (xs := xs.take k) (w := w1) (fun x hx => hp x (List.mem_of_mem_take hx)) (by have := isum_take_le hp k; omega) (by rw [hkl]; exact h))
    have hcap : xs.length ≤ cap := hfit _ _ _ rfl
    clear hfit
    clear hr hp hkl
    go_enter Try.func25, Try.ntmps25
    go_wp2_with fail
    refine (HT.out _ ht).mono ?_
    rintro e w1 ⟨rfl, rfl⟩
    go_wp2_with fail
    go_ret
    exact ⟨rfl, rfl⟩
  · have hr : lowI xs i = 0 := by unfold lowI; rw [if_neg h0]
    rw [hr]
    obtain ⟨a, cap, rfl⟩ := hrd.form
    by_cases hn : i < 0
    · go_enter Try.func25, Try.ntmps25
      go_wp2_with fail
      go_ret
      exact ⟨rfl, rfl⟩
    · have hn2 : (xs.length : Int) ≤ i := by omega
      go_enter Try.func25, Try.ntmps25
      go_wp2_with fail
      go_ret
      exact ⟨rfl, rfl⟩

set_option maxRecDepth 100000 in
set_option maxHeartbeats 1000000 in
theorem rcount_calls {v : Value} {xs : List Int} {i : Int} {w : World} (_hlen : xs.length ≤ 1000000) (hrd : RdS w v xs.length 1 (xs.map iv)) :
    Calls Try.prog 27 #[v, .int .i64 i] w fun e w' => e = .returned (.int .i64 (countI xs i)) ∧ w = w' := by
  by_cases h0 : 0 ≤ i ∧ i < xs.length
  · obtain ⟨k, rfl⟩ := Int.eq_ofNat_of_zero_le h0.1
    have hk : k < xs.length := by omega
    have hr : countI xs k = xs[k] := by unfold countI; rw [if_pos h0, Int.toNat_natCast, getD_get hk]
    rw [hr]
    obtain ⟨g, o, cap, rfl⟩ := hrd.open (by omega)
    have c1 : w.cell? ⟨g, o + k, none⟩ = some (.int .i64 xs[k]) := hrd.cell k (iv_get hk)
    generalize xs[k] = x at c1 hr ⊢
    clear hr
    go_enter Try.func27, Try.ntmps27
    go_wp2_with fail
    go_ret
    exact ⟨rfl, rfl⟩
  · have hr : countI xs i = 0 := by unfold countI; rw [if_neg h0]
    rw [hr]
    obtain ⟨a, cap, rfl⟩ := hrd.form
    by_cases hn : i < 0
    · go_enter Try.func27, Try.ntmps27
      go_wp2_with fail
      go_ret
      exact ⟨rfl, rfl⟩
    · have hn2 : (xs.length : Int) ≤ i := by omega
      go_enter Try.func27, Try.ntmps27
      go_wp2_with fail
      go_ret
      exact ⟨rfl, rfl⟩

set_option maxRecDepth 100000 in
set_option maxHeartbeats 1000000 in
theorem rcheck_calls {v : Value} {xs : List Int} {w : World} (hlen : xs.length ≤ 1000000) (hrd : RdS w v xs.length 1 (xs.map iv)) :
    Calls Try.prog 20 #[v] w fun e w' => e = .returned (.int .i64 (tabErr xs : Int)) ∧ w = w' := by
  obtain ⟨a, cap, rfl⟩ := hrd.form
  by_cases h0 : xs.length < 1
  · have he : tabErr xs = 1 := by unfold tabErr; rw [if_pos (.inl h0)]
    rw [he]
    clear he
    go_enter Try.func20, Try.ntmps20
    go_wp2_with fail
    go_ret
    exact ⟨rfl, rfl⟩
  by_cases h1 : 256 < xs.length
  · have he : tabErr xs = 1 := by unfold tabErr; rw [if_pos (.inr h1)]
    rw [he]
    clear he
    go_enter Try.func20, Try.ntmps20
    go_wp2_with fail
    go_ret
    exact ⟨rfl, rfl⟩
  go_enter Try.func20, Try.ntmps20
  go_wp2_with fail
  go_loopg [3, 4, 5] xs.length (fun gk nv fv i wr => wr = w ∧ ∃ t : Nat, ∃ n : Int, ∃ fl : Bool, Hid (t ≤ xs.length ∧ gk = xs.length - t ∧ 0 ≤ n ∧ n ≤ 65536) ∧ Hid ((∀ x ∈ xs.take t, 1 ≤ x) ∧ fl = decide (65536 < isum (xs.take t)) ∧ (fl = false → n = isum (xs.take t))) ∧ nv = .int .i64 n ∧ fv = .bool fl ∧ i = .int .i64 (t : Int))
  case atStart => exact ⟨rfl, 0, 0, false, Lib.hid ⟨by omega, rfl, by omega, by omega⟩, Lib.hid ⟨by simp, rfl, fun _ => rfl⟩, rfl, rfl, rfl⟩
  case round =>
    obtain ⟨rfl, t, n, fl, hq, hh, rfl, rfl, rfl⟩ := hrel
    obtain ⟨q1, q2, q3, q4⟩ := hq.out
    clear hq
    by_cases c : t < xs.length
    · obtain ⟨g, o, cap', he⟩ := hrd.open (by omega)
      simp only [Value.slice.injEq, true_and] at he
      obtain ⟨rfl, rfl⟩ := he
      have c1 : wr.cell? ⟨g, o + t, none⟩ = some (.int .i64 xs[t]) := hrd.cell t (iv_get c)
      have HS := Lib.hid (isum_take_succ c)
      have HT := Lib.hid (List.take_succ_eq_append_getElem c)
      have HM := Lib.hid (List.getElem_mem c)
      generalize xs[t] = x at c1 HS HT HM
      by_cases cx : x < 1
      · have he : tabErr xs = 2 := by
          unfold tabErr; rw [if_neg (by omega), if_pos (fun h => by have := h x HM.out; omega)]
        have HE := Lib.hid he
        clear he
        go_wp2_with fail
        go_ret
        rw [HE.out]
        exact ⟨rfl, rfl⟩
      · have hpos : ∀ y ∈ xs.take (t + 1), 1 ≤ y := by
          rw [HT.out]
          intro y hy
          rcases List.mem_append.1 hy with hy | hy
          · exact hh.out.1 y hy
          · have : y = x := by simpa using hy
            omega
        by_cases cf : 65536 - n < x
        · have HN : Hid ((∀ x ∈ xs.take (t + 1), 1 ≤ x) ∧ true = decide (65536 < isum (xs.take (t + 1))) ∧ (true = false → n = isum (xs.take (t + 1)))) := Lib.hid (by
            refine ⟨hpos, ?_, fun h => by cases h⟩
            have hs := HS.out
            have h2 := hh.out.2
            cases fl with
            | true => have := of_decide_eq_true h2.1.symm; exact (decide_eq_true (by omega)).symm
            | false => have := h2.2 rfl; exact (decide_eq_true (by omega)).symm)
          clear hpos
          go_wp2_with fail
          go_roundg (xs.length - (t + 1))
          case rel => exact ⟨rfl, t + 1, n, true, Lib.hid ⟨by omega, rfl, q3, q4⟩, HN, rfl, rfl, by go_num⟩
          case measure => omega
        · have HN : Hid ((∀ x ∈ xs.take (t + 1), 1 ≤ x) ∧ fl = decide (65536 < isum (xs.take (t + 1))) ∧ (fl = false → n + x = isum (xs.take (t + 1)))) := Lib.hid (by
            have hs := HS.out
            have h2 := hh.out.2
            refine ⟨hpos, ?_, fun h => by have := h2.2 h; omega⟩
            cases fl with
            | true => have := of_decide_eq_true h2.1.symm; exact (decide_eq_true (by omega)).symm
            | false => have := h2.2 rfl; exact (decide_eq_false (by omega)).symm)
          clear hpos
          go_wp2_with fail
          go_roundg (xs.length - (t + 1))
          case rel => exact ⟨rfl, t + 1, n + x, fl, Lib.hid ⟨by omega, rfl, by omega, by omega⟩, HN, rfl, rfl, by go_num⟩
          case measure => omega
    · obtain rfl : t = xs.length := by omega
      have h3 := hh.out
      rw [List.take_length] at h3
      clear hh
      cases fl with
      | true =>
        have he : tabErr xs = 7 := by
          unfold tabErr; rw [if_neg (by omega), if_neg (fun h => h h3.1), if_pos (of_decide_eq_true h3.2.1.symm)]
        have HE := Lib.hid he
        clear he h3
        go_wp2_with fail
        go_ret
        rw [HE.out]
        exact ⟨rfl, rfl⟩
      | false =>
        have he : tabErr xs = 0 := by
          unfold tabErr; rw [if_neg (by omega), if_neg (fun h => h h3.1), if_neg (of_decide_eq_false h3.2.1.symm)]
        have HE := Lib.hid he
        clear he h3
        go_wp2_with fail
        go_ret
        rw [HE.out]
        exact ⟨rfl, rfl⟩

end Go.Proofs.Ytglinpclcmmnbaa
