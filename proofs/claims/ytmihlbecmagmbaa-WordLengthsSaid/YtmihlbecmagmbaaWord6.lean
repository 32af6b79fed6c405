/- slices.Reverse, slices.Min of ints. -/
import Derived.Test.YtmihlbecmagmbaaFits
import Derived.Test.YtmihlbecmagmbaaBits4
namespace Go.Proofs.Ytmihlbecmagmbaa
open Go.RowKit

/-- Half reversed. -/
def Rev (xs ys : List Int) (t : Nat) : Prop := ys.length = xs.length ∧ ∀ p, p < xs.length → ys.getD p 0 = if p < t ∨ xs.length ≤ p + t then xs.getD (xs.length - 1 - p) 0 else xs.getD p 0
theorem Rev.zero (xs : List Int) : Rev xs xs 0 := ⟨rfl, fun p hp => by rw [if_neg (by omega)]⟩
theorem Rev.step {xs ys : List Int} {t : Nat} (h : Rev xs ys t) (ht : t < xs.length - 1 - t) : Rev xs ((ys.set t (ys.getD (xs.length - 1 - t) 0)).set (xs.length - 1 - t) (ys.getD t 0)) (t + 1) := by
  obtain ⟨h1, h2⟩ := h
  refine ⟨by simp [h1], fun p hp => ?_⟩
  rw [h2 _ (by omega), h2 _ (by omega), if_neg (by omega), if_neg (by omega)]
  have hpl : p < ((ys.set t (xs.getD (xs.length - 1 - t) 0)).set (xs.length - 1 - t) (xs.getD t 0)).length := by simp [h1, hp]
  rw [List.getD_eq_getElem?_getD, List.getElem?_eq_getElem hpl, Option.getD_some, List.getElem_set, List.getElem_set]
  by_cases e1 : xs.length - 1 - t = p
  · rw [if_pos e1, if_pos (by omega), ← e1]
    congr 1; omega
  · rw [if_neg e1]
    by_cases e2 : t = p
    · subst e2
      rw [if_pos rfl, if_pos (by omega)]
    · rw [if_neg e2]
      have := h2 p hp
      rw [List.getD_eq_getElem?_getD, List.getElem?_eq_getElem (by omega), Option.getD_some] at this
      rw [this]
      by_cases e3 : p < t ∨ xs.length ≤ p + t
      · rw [if_pos e3, if_pos (by omega)]
      · rw [if_neg e3, if_neg (by omega)]
theorem Rev.done {xs ys : List Int} {t : Nat} (h : Rev xs ys t) (ht : xs.length ≤ 2 * t + 1) : ys = xs.reverse := by
  obtain ⟨h1, h2⟩ := h
  apply List.ext_getElem
  · simp [h1]
  intro p p1 p2
  have hp : p < xs.length := by omega
  have := h2 p hp
  rw [List.getD_eq_getElem?_getD, List.getElem?_eq_getElem p1, Option.getD_some] at this
  rw [this, List.getElem_reverse]
  have e : ∀ q (hq : q < xs.length), xs.getD q 0 = xs[q] := fun q hq => by rw [List.getD_eq_getElem?_getD, List.getElem?_eq_getElem hq]; rfl
  split
  · rw [e _ (by omega)]
  · rw [e _ hp]
    congr 1; omega

set_option maxRecDepth 100000 in
set_option maxHeartbeats 2000000 in
theorem reverse_calls {v : Value} {xs : List Int} {R : List HP} {w : World} (hlen : xs.length ≤ 1000000) (H : Sep w (HP.row 3 1 v xs.length (xs.map iv) :: R)) :
    Calls Try.prog 43 #[v] w fun e w' => (∃ u, e = .returned u) ∧ Sep w' (HP.row 3 1 v xs.length (xs.reverse.map iv) :: R) := by
  obtain ⟨va, vc, rfl⟩ := H.row_form
  go_enter Try.func43, Try.ntmps43
  go_wp2_with fail
  go_loopg [2, 3] xs.length (fun gk i j wr => ∃ (t : Nat) (ys : List Int), Hid (t ≤ xs.length ∧ gk = xs.length - t ∧ Rev xs ys t) ∧ i = .int .i64 (t : Int) ∧ j = .int .i64 ((xs.length : Int) - 1 - (t : Int)) ∧ Sep wr (HP.row 3 1 (.slice va xs.length vc) xs.length (ys.map iv) :: R))
  case atStart => exact ⟨0, xs, Lib.hid ⟨by omega, rfl, Rev.zero xs⟩, rfl, by go_num, H⟩
  case round =>
    clear H
    obtain ⟨t, ys, hq, rfl, rfl, Hr⟩ := hrel
    obtain ⟨q1, q2, q3⟩ := hq.out
    have hyl := q3.1
    clear hq
    by_cases c : t < xs.length - 1 - t
    · obtain ⟨g, cap, cur, he, _⟩ := Hr.row_open (by omega)
      simp only [Value.slice.injEq, true_and] at he
      obtain ⟨rfl, rfl⟩ := he
      have q4 := q3.step c
      obtain ⟨j, hj⟩ : ∃ j : Nat, j = xs.length - 1 - t := ⟨_, rfl⟩
      have hji : (xs.length : Int) - 1 - (t : Int) = (j : Int) := by omega
      rw [← hj] at c q4
      rw [hji]
      have e1 : (ys.map iv)[t]? = some (.int .i64 (ys.getD t 0)) := by
        rw [List.getElem?_map, List.getD_eq_getElem?_getD, List.getElem?_eq_getElem (by omega)]; rfl
      have e2 : (ys.map iv)[j]? = some (.int .i64 (ys.getD j 0)) := by
        rw [List.getElem?_map, List.getD_eq_getElem?_getD, List.getElem?_eq_getElem (by omega)]; rfl
      have c1 := Hr.row_cell t e1
      have c2 := Hr.row_cell j e2
      have f1 := Hr.row_froz t
      have f2 := Hr.row_froz j
      have H1 := ((Hr.row_set t (.int .i64 (ys.getD j 0))).row_set j (.int .i64 (ys.getD t 0))).drew
      have hm : ((ys.map iv).set t (.int .i64 (ys.getD j 0))).set j (.int .i64 (ys.getD t 0)) = ((ys.set t (ys.getD j 0)).set j (ys.getD t 0)).map iv := by
        rw [List.map_set, List.map_set]; rfl
      rw [hm] at H1
      have Q4 := Lib.hid q4
      have HJ := Lib.hid (And.intro hj hji)
      have b1 : (t : Int) < (j : Int) := by omega
      have b2 : (j : Int) < (xs.length : Int) := by omega
      have b3 : (t : Int) < (xs.length : Int) := by omega
      have hne : ¬ t = j := by omega
      have hne2 : ¬ j = t := by omega
      clear q3 q4 hj hji hm e1 e2
      generalize ys.getD j 0 = a at *
      generalize ys.getD t 0 = b at *
      go_wp2_with fail
      go_region
      clear Hr c1 c2 f1 f2
      generalize ((wr.setCell ⟨g, t, none⟩ (.int .i64 a)).setCell ⟨g, j, none⟩ (.int .i64 b)).drew = W2 at *
      go_wp2_with fail
      go_roundg (xs.length - (t + 1))
      case rel => exact ⟨t + 1, _, Lib.hid ⟨by omega, rfl, Q4.out⟩, by go_num, by have := HJ.out.2; go_num, H1⟩
      case measure => omega
    · have b1 : ¬ (t : Int) < (xs.length : Int) - 1 - (t : Int) := by omega
      have := q3.done (by omega)
      subst this
      go_wp2_with fail
      go_end0
      exact ⟨⟨_, rfl⟩, by rw [← List.map_reverse]; exact Hr⟩

set_option maxRecDepth 100000 in
set_option maxHeartbeats 1000000 in
theorem min3_calls {g o cap : Nat} {xs : List Int} {w : World} (h1 : 1 ≤ xs.length) (hl : xs.length ≤ 1000000) (hrd : RdS w (.slice (some ⟨g, o, none⟩) xs.length cap) xs.length 1 (xs.map iv)) :
    Calls Try.prog 34 #[.slice (some ⟨g, o, none⟩) xs.length cap] w fun e w' => w = w' ∧ ∃ m : Int, e = .returned (.int .i64 m) ∧ (3 ≤ m ↔ ∀ x ∈ xs, 3 ≤ x) := by
  have c0 : w.cell? ⟨g, o + 0, none⟩ = some (.int .i64 xs[0]) := hrd.cell 0 (iv_get (by omega))
  rw [Nat.add_zero] at c0
  go_enter Try.func34, Try.ntmps34
  go_wp2_with fail
  go_loopg [3, 4] (xs.length - 1) (fun gk m i wr => wr = w ∧ ∃ t : Nat, ∃ y : Int, Hid (1 ≤ t ∧ t ≤ xs.length ∧ gk = xs.length - t) ∧ Hid (3 ≤ y ↔ ∀ x ∈ xs.take t, 3 ≤ x) ∧ m = .int .i64 y ∧ i = .int .i64 (t : Int))
  case atStart => exact ⟨rfl, 1, xs[0], Lib.hid ⟨by omega, by omega, rfl⟩, Lib.hid (by rw [List.take_succ_eq_append_getElem (by omega)]; simp), rfl, rfl⟩
  case round =>
    obtain ⟨rfl, t, y, hq, hy, rfl, rfl⟩ := hrel
    obtain ⟨q0, q1, q2⟩ := hq.out
    clear hq
    by_cases c : t < xs.length
    · have c1 : wr.cell? ⟨g, o + t, none⟩ = some (.int .i64 xs[t]) := hrd.cell t (iv_get c)
      have HN : Hid (∀ m : Int, m = min y xs[t] → (3 ≤ m ↔ ∀ x ∈ xs.take (t + 1), 3 ≤ x)) := Lib.hid fun m hm => by
        rw [List.take_succ_eq_append_getElem c]
        have := hy.out
        constructor
        · intro h x hx
          rcases List.mem_append.1 hx with hx | hx
          · exact this.1 (by omega) x hx
          · have : x = xs[t] := by simpa using hx
            omega
        · intro h
          have h2 := this.2 (fun x hx => h x (List.mem_append_left _ hx))
          have h3 := h xs[t] (List.mem_append_right _ (List.mem_singleton.2 rfl))
          omega
      generalize xs[t] = x at c1 HN
      by_cases cm : y ≤ x
      · have HN2 := Lib.hid (HN.out y (by omega))
        go_wp2_with fail
        go_roundg (xs.length - (t + 1))
        case rel => exact ⟨rfl, t + 1, y, Lib.hid ⟨by omega, by omega, rfl⟩, HN2, by go_num, by go_num⟩
        case measure => omega
      · have HN2 := Lib.hid (HN.out x (by omega))
        go_wp2_with fail
        go_roundg (xs.length - (t + 1))
        case rel => exact ⟨rfl, t + 1, x, Lib.hid ⟨by omega, by omega, rfl⟩, HN2, by go_num, by go_num⟩
        case measure => omega
    · obtain rfl : t = xs.length := by omega
      go_wp2_with fail
      go_ret
      have := hy.out
      rw [List.take_length] at this
      exact ⟨rfl, y, rfl, this⟩

/-- A predicate that is handed over as a function value: what it says of each number, and that the frame stays. -/
def Says1 (k : Nat) (x : Value) (R : List HP) (n : Nat) (p : Nat → Bool) : Prop :=
  ∀ (i : Nat) (w : World), i < n → Sep w R → Calls Try.prog k #[.int .i64 (i : Int), x] w fun e w' => e = .returned (.bool (p i)) ∧ Sep w' R

set_option maxRecDepth 100000 in
set_option maxHeartbeats 1000000 in
theorem search1_calls {k m n : Nat} {x : Value} {R : List HP} {p : Nat → Bool} {w : World} (hen : ∀ args w, (callFunc k args).run Try.prog w = .ok (.enter k args) w) (hn : n ≤ 1099511627776) (hm : m ≤ n) (hlo : ∀ i, i < m → p i = false) (hhi : ∀ i, m ≤ i → i < n → p i = true) (hs : Says1 k x R n p) (H : Sep w R) :
    Calls Try.prog 35 #[.int .i64 (n : Int), .func (.func k) #[] #[x]] w fun e w' => e = .returned (.int .i64 (m : Int)) ∧ Sep w' R := by
  have HS := Lib.hid hs
  have HLO := Lib.hid hlo
  have HHI := Lib.hid hhi
  clear hs hlo hhi
  go_enter Try.func35, Try.ntmps35
  go_wp2_with fail
  go_loopg [5, 6, 7] n (fun gk i j _ wr => ∃ a b : Nat, Hid (a ≤ m ∧ m ≤ b ∧ b ≤ n ∧ gk = b - a) ∧ i = .int .i64 (a : Int) ∧ j = .int .i64 (b : Int) ∧ Sep wr R)
  case atStart => exact ⟨0, n, Lib.hid ⟨by omega, hm, by omega, rfl⟩, rfl, rfl, H⟩
  case round =>
    obtain ⟨a, b, hq, rfl, rfl, Hr⟩ := hrel
    obtain ⟨q1, q2, q3, q4⟩ := hq.out
    clear hq
    by_cases c : a < b
    · go_wp2_with fail
      have hi : ((a : Int) + (b : Int)) / 2 = ((a + b) / 2 : Nat) := by omega
      have hlt : (a + b) / 2 < n := by omega
      rw [hi]
      clear hi
      refine (HS.out _ _ hlt Hr).mono ?_
      rintro e w2 ⟨rfl, H2⟩
      clear Hr
      by_cases cm : (a + b) / 2 < m
      · rw [HLO.out _ cm]
        go_wp2_with fail
        go_roundg (b - ((a + b) / 2 + 1))
        case rel => exact ⟨(a + b) / 2 + 1, b, Lib.hid ⟨by omega, by omega, by omega, rfl⟩, by go_num, rfl, H2⟩
        case measure => omega
      · rw [HHI.out _ (by omega) hlt]
        go_wp2_with fail
        go_roundg ((a + b) / 2 - a)
        case rel => exact ⟨a, (a + b) / 2, Lib.hid ⟨by omega, by omega, by omega, rfl⟩, rfl, by go_num, H2⟩
        case measure => omega
    · obtain rfl : a = m := by omega
      go_wp2_with fail
      go_ret
      exact ⟨rfl, Hr⟩

end Go.Proofs.Ytmihlbecmagmbaa
