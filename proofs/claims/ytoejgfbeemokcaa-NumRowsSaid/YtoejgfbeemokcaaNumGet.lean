/- num.rest, num.Get. -/
import Derived.Test.YtoejgfbeemokcaaGetPlain
namespace Go.Proofs.Ytoejgfbeemokcaa
open Go.RowKit

theorem take_succ_drop {l : List Bool} {p t : Nat} (h : p + t < l.length) : (l.drop p).take (t + 1) = (l.drop p).take t ++ [l.getD (p + t) false] := by
  rw [List.take_succ_eq_append_getElem (by rw [List.length_drop]; omega)]
  congr 2
  rw [List.getElem_drop, List.getD, List.getElem?_eq_getElem h]; rfl

theorem drop_one {l : List Bool} {p : Nat} (h : p < l.length) (ht : l.getD p false = true) : (l.drop p).take 1 = [true] := by
  have := take_succ_drop (l := l) (p := p) (t := 0) (by omega)
  rw [Nat.zero_add, Nat.add_zero, ht] at this
  simpa using this

theorem ofBits_pos {l : List Bool} {p : Nat} (hp : p < l.length) (ht : l.getD p false = true) : ∀ t : Nat, p + t < l.length → 1 ≤ ofBits ((l.drop p).take (t + 1))
  | 0, _ => by rw [drop_one hp ht]; decide
  | t + 1, h => by
    have ih := ofBits_pos hp ht t (by omega)
    rw [take_succ_drop h, ofBits_snoc]; omega
theorem getD_drop {l : List Bool} {i t : Nat} : (l.drop i).getD t false = l.getD (i + t) false := by
  simp [List.getD, List.getElem?_drop]

/-- What num.rest gives: the 1 lies at p, k bits are to come. -/
def restN (l : List Bool) (p k : Nat) : Nat × Nat :=
  if l.length < p + 1 + k then (0, 4)
  else if 4294967297 < ofBits ((l.drop p).take (k + 1)) then (0, 3)
  else (ofBits ((l.drop p).take (k + 1)) - 1, 0)

set_option maxRecDepth 100000 in
set_option maxHeartbeats 1000000 in
theorem nrest_calls {b p k : Nat} {l : List Bool} {R : List HP} {w : World} (hp : p < l.length) (hk : k ≤ 32) (ht : l.getD p false = true) (hl : l.length ≤ 33554432) (H : Sep w (Rdr b l (p + 1) :: R)) :
    Calls Try.prog 61 #[.pointer (some ⟨b, 0, none⟩), .int .i64 (k : Int)] w fun e w' => e = .returned (.tuple #[.int .u64 ((restN l p k).1 : Int), .int .i64 ((restN l p k).2 : Int)]) ∧
      ∃ j, j ≤ l.length ∧ ((restN l p k).2 = 0 → j = p + 1 + k) ∧ Sep w' (Rdr b l j :: R) := by
  have h1 : ofBits ((l.drop p).take 1) = 1 := by rw [drop_one hp ht]; rfl
  have H1 := Lib.hid h1
  have HL := Lib.hid hl
  have HP1 := Lib.hid (ofBits_pos hp ht)
  clear h1 ht hl
  go_enter Try.func61, Try.ntmps61
  go_wp2_with fail
  go_loopg [6, 7] k (fun gk x left wr => ∃ t : Nat, Hid (t ≤ k ∧ p + 1 + t ≤ l.length ∧ gk = k - t) ∧ left = .int .i64 ((k : Int) - (t : Int)) ∧ x = .int .u64 (ofBits ((l.drop p).take (t + 1)) : Int) ∧ Sep wr (Rdr b l (p + 1 + t) :: R))
  case atStart => exact ⟨0, Lib.hid ⟨by omega, by omega, rfl⟩, by go_num, by rw [H1.out]; rfl, H⟩
  case round =>
    obtain ⟨t, hq, rfl, rfl, Hr⟩ := hrel
    obtain ⟨q1, q2, q3⟩ := hq.out
    clear hq
    by_cases c : t < k
    · by_cases c2 : p + 1 + t < l.length
      · have h2 : ofBits ((l.drop p).take (t + 1 + 1)) = 2 * ofBits ((l.drop p).take (t + 1)) + (l.getD (p + 1 + t) false).toNat := by
          have he : p + 1 + t = p + (t + 1) := by omega
          rw [he, take_succ_drop (by omega), ofBits_snoc]
        have h3 : ofBits ((l.drop p).take (t + 1)) < 4294967296 := by
          have := ofBits_lt ((l.drop p).take (t + 1))
          have h4 : ((l.drop p).take (t + 1)).length ≤ 32 := by rw [List.length_take]; omega
          exact Nat.lt_of_lt_of_le this (Nat.le_trans (Nat.pow_le_pow_right (by omega) h4) (by decide))
        go_wp2_with fail
        refine (rbit_ok c2 HL.out Hr).mono ?_
        rintro e w2 ⟨rfl, H2⟩
        clear Hr
        generalize hx : l.getD (p + 1 + t) false = x at h2
        generalize ofBits ((l.drop p).take (t + 1)) = X at h2 h3
        have H2X := Lib.hid h2
        have H1X := Lib.hid hx
        clear h2 hx
        cases x
        all_goals
          go_wp2_with fail
          go_roundg (k - (t + 1))
          case rel => exact ⟨t + 1, Lib.hid ⟨by omega, by omega, rfl⟩, by go_num, by rw [H2X.out]; go_num, H2⟩
          case measure => omega
      · have hr : restN l p k = (0, 4) := by unfold restN; rw [if_pos (by omega)]
        have HR := Lib.hid hr
        clear hr
        generalize ofBits ((l.drop p).take (t + 1)) = X
        go_wp2_with fail
        refine (rbit_end (by omega) HL.out Hr).mono ?_
        rintro e w2 ⟨rfl, n1, rfl⟩
        have H2 := Hr.drewN n1
        clear Hr
        go_wp2_with fail
        go_ret2
        rw [HR.out]
        refine ⟨rfl, p + 1 + t, by omega, (fun h => by cases h), H2⟩
    · have ht : t = k := by omega
      subst ht
      have h3 : ofBits ((l.drop p).take (t + 1)) < 8589934592 := by
        have := ofBits_lt ((l.drop p).take (t + 1))
        have h4 : ((l.drop p).take (t + 1)).length ≤ 33 := by rw [List.length_take]; omega
        exact Nat.lt_of_lt_of_le this (Nat.le_trans (Nat.pow_le_pow_right (by omega) h4) (by decide))
      by_cases c3 : l.length < p + 1 + t
      · omega
      have h4 : 1 ≤ ofBits ((l.drop p).take (t + 1)) := HP1.out t (by omega)
      by_cases c2 : 4294967297 < ofBits ((l.drop p).take (t + 1))
      · have hr : restN l p t = (0, 3) := by unfold restN; rw [if_neg (by omega), if_pos c2]
        have HR := Lib.hid hr
        clear hr
        generalize ofBits ((l.drop p).take (t + 1)) = X at *
        go_wp2_with fail
        go_ret2
        rw [HR.out]
        exact ⟨rfl, p + 1 + t, by omega, (fun h => by cases h), Hr⟩
      · have hr : restN l p t = (ofBits ((l.drop p).take (t + 1)) - 1, 0) := by unfold restN; rw [if_neg (by omega), if_neg c2]
        have HR := Lib.hid hr
        clear hr
        generalize ofBits ((l.drop p).take (t + 1)) = X at *
        go_wp2_with fail
        go_ret2
        rw [HR.out]
        exact ⟨by go_num, p + 1 + t, by omega, fun _ => rfl, Hr⟩

/-- num.Get: any place of any bits. -/
theorem getN_rest {l : List Bool} {i t : Nat} (hl : leadN (l.drop i) = t) (ht : t ≤ 32) (hi : i + t ≤ l.length) :
    (getN (l.drop i)).1 = (restN l (i + t) t).1 ∧ (getN (l.drop i)).2.2 = (restN l (i + t) t).2 ∧ ((restN l (i + t) t).2 = 0 → (getN (l.drop i)).2.1 = 2 * t + 1) := by
  unfold getN restN
  rw [hl, if_neg (by omega), List.drop_drop, List.length_drop]
  by_cases c : l.length < i + t + 1 + t
  · rw [if_pos (by omega), if_pos c]; exact ⟨rfl, rfl, fun h => by cases h⟩
  rw [if_neg (by omega), if_neg c]
  by_cases c2 : 4294967297 < ofBits ((l.drop (i + t)).take (t + 1))
  · rw [if_pos c2, if_pos c2]; exact ⟨rfl, rfl, fun h => by cases h⟩
  · rw [if_neg c2, if_neg c2]; exact ⟨rfl, rfl, fun _ => rfl⟩

set_option maxRecDepth 100000 in
set_option maxHeartbeats 1000000 in
theorem nget_all {b i : Nat} {l : List Bool} {R : List HP} {w : World} (hi : i ≤ l.length) (hl : l.length ≤ 33554432) (H : Sep w (Rdr b l i :: R)) :
    Calls Try.prog 54 #[.pointer (some ⟨b, 0, none⟩)] w fun e w' => e = .returned (.tuple #[.int .u64 ((getN (l.drop i)).1 : Int), .int .i64 ((getN (l.drop i)).2.2 : Int)]) ∧
      ∃ j, j ≤ l.length ∧ ((getN (l.drop i)).2.2 = 0 → j = i + (getN (l.drop i)).2.1) ∧ Sep w' (Rdr b l j :: R) := by
  have HL := Lib.hid hl
  clear hl
  go_enter Try.func54, Try.ntmps54
  go_wp2_with fail
  go_loopg [4] 33 (fun gk z wr => ∃ t : Nat, Hid (t ≤ 32 ∧ i + t ≤ l.length ∧ gk = 33 - t ∧ ∀ j, j < t → (l.drop i).getD j false = false) ∧ z = .int .i64 (t : Int) ∧ Sep wr (Rdr b l (i + t) :: R))
  case atStart => exact ⟨0, Lib.hid ⟨by omega, by omega, rfl, fun j h => absurd h (by omega)⟩, rfl, H⟩
  case round =>
    obtain ⟨t, hq, rfl, Hr⟩ := hrel
    obtain ⟨q1, q2, q3, q4⟩ := hq.out
    clear hq
    have Q4 := Lib.hid q4
    clear q4
    by_cases c : i + t < l.length
    · have HG := Lib.hid (getD_drop (l := l) (i := i) (t := t))
      go_wp2_with fail
      refine (rbit_ok c HL.out Hr).mono ?_
      rintro e w2 ⟨rfl, H2⟩
      clear Hr
      generalize hx : l.getD (i + t) false = x at HG
      have HX := Lib.hid hx
      clear hx
      cases x
      · have hn : ∀ j, j < t + 1 → (l.drop i).getD j false = false := fun j h => by
          by_cases cj : j < t
          · exact Q4.out j cj
          · have : j = t := by omega
            subst this; exact HG.out
        have HN := Lib.hid hn
        clear hn
        by_cases c2 : t = 32
        · have h33 : getN (l.drop i) = (0, 0, 3) := by
            unfold getN; rw [if_pos (leadN_ge (by rw [List.length_drop]; omega) (by have := HN.out; rw [c2] at this; exact this))]
          have H33 := Lib.hid h33
          clear h33
          go_wp2_with fail
          go_ret2
          rw [H33.out]
          exact ⟨rfl, i + t + 1, by omega, (fun h => by cases h), H2⟩
        · go_wp2_with fail
          go_roundg (33 - (t + 1))
          case rel => exact ⟨t + 1, Lib.hid ⟨by omega, by omega, rfl, HN.out⟩, by go_num, H2⟩
          case measure => omega
      · have hle := leadN_eq Q4.out HG.out
        obtain ⟨g1, g2, g3⟩ := getN_rest hle q1 q2
        have HR := Lib.hid (And.intro g1 (And.intro g2 g3))
        clear g1 g2 g3 hle
        go_wp2_with fail
        refine (nrest_calls c q1 HX.out HL.out H2).mono ?_
        rintro e w3 ⟨rfl, j, j1, j2, H3⟩
        have J2 := Lib.hid j2
        clear H2 j2
        generalize restN l (i + t) t = V at *
        obtain ⟨v1, v2⟩ := V
        go_wp2_with fail
        go_ret2
        obtain ⟨g1, g2, g3⟩ := HR.out
        rw [g1, g2]
        have G3 := Lib.hid g3
        refine ⟨rfl, j, j1, fun h => ?_, H3⟩
        have h1 := J2.out h
        have h2 := G3.out h
        omega
    · have hle : leadN (l.drop i) = t := by
        have := leadN_none (l := l.drop i) (fun j h => Q4.out j (by rw [List.length_drop] at h; omega))
        rw [this, List.length_drop]; omega
      have h4 : getN (l.drop i) = (0, 0, 4) := by
        unfold getN; rw [hle, if_neg (by omega), if_pos (by rw [List.length_drop]; omega)]
      have H4 := Lib.hid h4
      clear h4 hle
      go_wp2_with fail
      refine (rbit_end (by omega) HL.out Hr).mono ?_
      rintro e w2 ⟨rfl, n1, rfl⟩
      have H2 := Hr.drewN n1
      clear Hr
      go_wp2_with fail
      go_ret2
      rw [H4.out]
      exact ⟨rfl, i + t, by omega, (fun h => by cases h), H2⟩

end Go.Proofs.Ytoejgfbeemokcaa
