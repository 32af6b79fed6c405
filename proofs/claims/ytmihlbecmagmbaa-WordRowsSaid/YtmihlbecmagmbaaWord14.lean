/- word: letter, Decode. -/
import Derived.Test.YtmihlbecmagmbaaWord13
namespace Go.Proofs.Ytmihlbecmagmbaa
open Go.RowKit Go.Shelf

/-- The letter that bits begin with, and how many they are. -/
def letB (x y : Bool) : UInt8 := if x then (if y then 69 else 76) else (if y then 82 else 83)
def nextL : List Bool → Option (UInt8 × Nat)
  | false :: _ => some (67, 1)
  | true :: x :: y :: _ => some (letB x y, 3)
  | _ => none
def takesN (c : UInt8) : Nat := match kindOf c with
  | none => 0
  | some k => k.takes
/-- The letters of a word, from bits, m words being missing; how many bits; and whether it is whole. -/
def prs : Nat → Nat → List Bool → List UInt8 × Nat × Bool
  | _, 0, _ => ([], 0, true)
  | 0, _ + 1, _ => ([], 0, false)
  | f + 1, m + 1, s => match nextL s with
    | none => ([], 0, false)
    | some (c, n) => (c :: (prs f (m + takesN c) (s.drop n)).1, n + (prs f (m + takesN c) (s.drop n)).2.1, (prs f (m + takesN c) (s.drop n)).2.2)
/-- What is read of bits. -/
def decA (s : List Bool) : List UInt8 × Nat × Int :=
  if begB (prs (s.length + 1) 1 s).1 then (if (prs (s.length + 1) 1 s).2.2 then ((prs (s.length + 1) 1 s).1, (prs (s.length + 1) 1 s).2.1, 0) else ([], 0, 4)) else ([], 0, 3)

theorem nextL_some {s : List Bool} {c : UInt8} {n : Nat} (h : nextL s = some (c, n)) : 1 ≤ n ∧ n ≤ 3 ∧ n ≤ s.length ∧ ∃ k, kindOf c = some k := by
  rcases s with _ | ⟨_ | _, _ | ⟨x, _ | ⟨y, s⟩⟩⟩ <;> simp [nextL] at h
  all_goals obtain ⟨rfl, rfl⟩ := h
  · exact ⟨by decide, by decide, by simp, .C, rfl⟩
  · exact ⟨by decide, by decide, by simp, .C, rfl⟩
  · exact ⟨by decide, by decide, by simp, .C, rfl⟩
  · refine ⟨by decide, by decide, by simp, ?_⟩
    cases x <;> cases y
    · exact ⟨.S, rfl⟩
    · exact ⟨.R, rfl⟩
    · exact ⟨.L, rfl⟩
    · exact ⟨.E, rfl⟩

set_option maxRecDepth 100000 in
set_option maxHeartbeats 2000000 in
theorem letter_ok {b i n : Nat} {c : UInt8} {l : List Bool} {R : List HP} {w : World} (hn : nextL (l.drop i) = some (c, n)) (hl : l.length ≤ 100000) (H : Sep w (Rdr b l i :: R)) :
    Calls Try.prog 49 #[.pointer (some ⟨b, 0, none⟩)] w fun e w' => e = .returned (.tuple #[.int .u8 (c.toNat : Int), .int .i64 0]) ∧ Sep w' (Rdr b l (i + n) :: R) := by
  have hnl := (nextL_some hn).2.2.1
  have hn1 := (nextL_some hn).1
  rw [List.length_drop] at hnl
  have hb := rbit_ok (b := b) (i := i) (l := l) (R := R) (w := w) (by omega) (by omega) H
  have hd : l.drop i = l.getD i false :: l.drop (i + 1) := by
    rw [List.getD, List.getElem?_eq_getElem (by omega), Option.getD_some]; exact (List.getElem_cons_drop (by omega)).symm
  rw [hd] at hn
  generalize l.getD i false = x at *
  cases x with
  | false =>
    simp only [nextL, Option.some.injEq, Prod.mk.injEq] at hn
    obtain ⟨rfl, rfl⟩ := hn
    clear hd
    go_enter Try.func49, Try.ntmps49
    go_wp2_with fail
    refine hb.mono ?_
    rintro e w1 ⟨rfl, H1⟩
    go_wp2_with fail
    go_ret2
    exact ⟨rfl, H1⟩
  | true =>
    rcases hd2 : l.drop (i + 1) with _ | ⟨x, _ | ⟨y, s⟩⟩
    · rw [hd2] at hn; simp [nextL] at hn
    · rw [hd2] at hn; simp [nextL] at hn
    rw [hd2] at hn
    simp only [nextL, Option.some.injEq, Prod.mk.injEq] at hn
    obtain ⟨rfl, rfl⟩ := hn
    have hg := fun w1 (h : Sep w1 (Rdr b l (i + 1) :: R)) => get_ok (n := 2) (by decide) (by omega) (by omega) h
    have hof : ofBits ((l.drop (i + 1)).take 2) = 2 * x.toNat + y.toNat := by rw [hd2]; cases x <;> cases y <;> rfl
    rw [hof] at hg
    have HG := Lib.hid hg
    clear hg hof hd hd2
    go_enter Try.func49, Try.ntmps49
    go_wp2_with fail
    refine hb.mono ?_
    rintro e w1 ⟨rfl, H1⟩
    go_wp2_with fail
    refine (HG.out _ H1).mono ?_
    rintro e w2 ⟨rfl, H2⟩
    cases x <;> cases y
    · go_wp2_with fail
      go_ret2
      exact ⟨rfl, H2⟩
    · go_wp2_with fail
      go_ret2
      exact ⟨rfl, H2⟩
    · go_wp2_with fail
      go_ret2
      exact ⟨rfl, H2⟩
    · go_wp2_with fail
      go_ret2
      exact ⟨rfl, H2⟩

set_option maxRecDepth 100000 in
set_option maxHeartbeats 2000000 in
theorem letter_end {b i : Nat} {l : List Bool} {R : List HP} {w : World} (hn : nextL (l.drop i) = none) (hi : i ≤ l.length) (hl : l.length ≤ 100000) (H : Sep w (Rdr b l i :: R)) :
    Calls Try.prog 49 #[.pointer (some ⟨b, 0, none⟩)] w fun e w' => e = .returned (.tuple #[.int .u8 0, .int .i64 4]) ∧ ∃ j, Sep w' (Rdr b l j :: R) := by
  by_cases h : i = l.length
  · have hb := rbit_end (R := R) h (by omega) H
    go_enter Try.func49, Try.ntmps49
    go_wp2_with fail
    refine hb.mono ?_
    rintro e w1 ⟨rfl, n1, rfl⟩
    go_wp2_with fail
    go_ret2
    exact ⟨rfl, _, H.drewN n1⟩
  · have hb := rbit_ok (b := b) (i := i) (l := l) (R := R) (w := w) (by omega) (by omega) H
    have hd : l.drop i = l.getD i false :: l.drop (i + 1) := by
      rw [List.getD, List.getElem?_eq_getElem (by omega), Option.getD_some]; exact (List.getElem_cons_drop (by omega)).symm
    rw [hd] at hn
    generalize l.getD i false = x at *
    cases x with
    | false => simp [nextL] at hn
    | true =>
      have hsh : l.length < i + 1 + 2 := by
        have hlen : (l.drop (i + 1)).length = l.length - (i + 1) := List.length_drop
        rcases hd2 : l.drop (i + 1) with _ | ⟨x, _ | ⟨y, s⟩⟩
        · rw [hd2] at hlen; simp at hlen; omega
        · rw [hd2] at hlen; simp at hlen; omega
        · rw [hd2] at hn; simp [nextL] at hn
      have hg := fun w1 (h : Sep w1 (Rdr b l (i + 1) :: R)) => get_end (n := 2) (by decide) (by omega) (by omega) hsh h
      have HG := Lib.hid hg
      clear hg hd
      go_enter Try.func49, Try.ntmps49
      go_wp2_with fail
      refine hb.mono ?_
      rintro e w1 ⟨rfl, H1⟩
      go_wp2_with fail
      refine (HG.out _ H1).mono ?_
      rintro e w2 ⟨rfl, n2, rfl⟩
      go_wp2_with fail
      go_ret2
      exact ⟨rfl, _, H1.drewN n2⟩

end Go.Proofs.Ytmihlbecmagmbaa
