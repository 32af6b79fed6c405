/- Tables: plain. table: Min, Clone of a slice; the readers of a table. table: New. table: Bump. -/
import Derived.Test.YtbhpcpcpccmacaaGA
import Derived.Test.YtbhpcpcpccmacaaProg
import Derived.WalkKit
import Derived.WalkSpells
import Derived.WalkLawsBesides
import Derived.StillTailTactics
import Derived.BigQuiet
import Derived.Lib.Hide
import Derived.Deep.QuietTactic
import Derived.Deep.DeepFit
import Derived.Deep.DeepCutAuto

namespace Go.Proofs.Ytbhpcpcpccmacaa
open Go.RowKit

def iv (x : Int) : Value := .int .i64 x

/-- A sum. -/
def isum : List Int → Int
  | [] => 0
  | x :: l => x + isum l
theorem isum_nil : isum [] = 0 := rfl
theorem isum_append (a b : List Int) : isum (a ++ b) = isum a + isum b := by
  induction a with
  | nil => simp [isum]
  | cons x a ih => simp only [List.cons_append, isum, ih]; omega
theorem isum_take_succ {l : List Int} {i : Nat} (h : i < l.length) : isum (l.take (i + 1)) = isum (l.take i) + l[i] := by
  rw [List.take_succ_eq_append_getElem h, isum_append]; simp [isum]
theorem isum_set : ∀ {l : List Int} {i : Nat} (h : i < l.length) (v : Int), isum (l.set i v) = isum l - l[i] + v
  | x :: l, 0, _, v => by simp [isum]; omega
  | x :: l, i + 1, h, v => by
    have h2 : i < l.length := by simpa using h
    have := isum_set h2 v
    simp only [List.set_cons_succ, isum, this, List.getElem_cons_succ]; omega
theorem isum_nonneg : ∀ {l : List Int}, (∀ x ∈ l, 1 ≤ x) → (l.length : Int) ≤ isum l
  | [], _ => by simp [isum]
  | x :: l, h => by
    have h1 := h x (by simp)
    have h2 := isum_nonneg (l := l) (fun y hy => h y (by simp [hy]))
    simp only [isum, List.length_cons]; omega
theorem isum_take_le {l : List Int} (h : ∀ x ∈ l, 1 ≤ x) (i : Nat) : isum (l.take i) ≤ isum l := by
  have h1 : isum l = isum (l.take i) + isum (l.drop i) := by rw [← isum_append, List.take_append_drop]
  have h2 := isum_nonneg (l := l.drop i) (fun x hx => h x (List.mem_of_mem_drop hx))
  omega
theorem isum_take_nonneg {l : List Int} (h : ∀ x ∈ l, 1 ≤ x) (i : Nat) : 0 ≤ isum (l.take i) := by
  have := isum_nonneg (l := l.take i) (fun x hx => h x (List.mem_of_mem_take hx))
  omega

/-- A table's counts. -/
def Vt (cs : List Int) : Prop := 1 ≤ cs.length ∧ cs.length ≤ 256 ∧ (∀ x ∈ cs, 1 ≤ x) ∧ isum cs ≤ 65536
/-- The error's number of counts. -/
def tabErr (xs : List Int) : Nat :=
  if xs.length < 1 ∨ 256 < xs.length then 1
  else if ¬ ∀ x ∈ xs, 1 ≤ x then 2
  else if 65536 < isum xs then 7 else 0
theorem tabErr_ok {xs : List Int} (h : tabErr xs = 0) : Vt xs := by
  unfold tabErr at h
  split at h
  · cases h
  split at h
  · cases h
  split at h
  · cases h
  · next h1 h2 h3 => exact ⟨by omega, by omega, Decidable.not_not.1 h2, by omega⟩
theorem tabErr_of {xs : List Int} (h : Vt xs) : tabErr xs = 0 := by
  obtain ⟨h1, h2, h3, h4⟩ := h
  unfold tabErr
  rw [if_neg (by omega), if_neg (fun hc => hc h3), if_neg (by omega)]

/-- A sum of numbers that are cut. -/
def capSum : List Int → Int
  | [] => 0
  | x :: l => min x 65537 + capSum l
theorem capSum_append (a b : List Int) : capSum (a ++ b) = capSum a + capSum b := by
  induction a with
  | nil => simp [capSum]
  | cons x a ih => simp only [List.cons_append, capSum, ih]; omega
theorem capSum_take_succ {l : List Int} {i : Nat} (h : i < l.length) : capSum (l.take (i + 1)) = capSum (l.take i) + min l[i] 65537 := by
  rw [List.take_succ_eq_append_getElem h, capSum_append]; simp [capSum]
theorem capSum_bnd : ∀ {l : List Int}, (∀ x ∈ l, 1 ≤ x) → 0 ≤ capSum l ∧ capSum l ≤ 65537 * l.length
  | [], _ => by simp [capSum]
  | x :: l, h => by
    have h1 := h x (by simp)
    have h2 := capSum_bnd (l := l) (fun y hy => h y (by simp [hy]))
    simp only [capSum, List.length_cons]; omega
theorem capSum_big : ∀ {l : List Int}, (∀ x ∈ l, 1 ≤ x) → (capSum l ≤ isum l) ∧ (capSum l ≤ 65536 → capSum l = isum l)
  | [], _ => by simp [capSum, isum]
  | x :: l, h => by
    have h1 := h x (by simp)
    have h2 := capSum_big (l := l) (fun y hy => h y (by simp [hy]))
    have h3 := capSum_bnd (l := l) (fun y hy => h y (by simp [hy]))
    simp only [capSum, isum]
    refine ⟨by omega, fun hc => ?_⟩
    have := h2.2 (by omega)
    omega

/-- The symbol of a number. -/
def findOf : List Int → Int → Nat
  | [], _ => 0
  | c :: l, x => if x < c then 0 else findOf l (x - c) + 1
theorem findOf_le : ∀ (l : List Int) (x : Int), findOf l x ≤ l.length
  | [], _ => Nat.le_refl _
  | c :: l, x => by
    have := findOf_le l (x - c)
    simp only [findOf, List.length_cons]; split <;> omega
theorem findOf_lt : ∀ {l : List Int} {x : Int}, x < isum l → 0 ≤ x → findOf l x < l.length
  | [], x, h, h0 => by simp [isum] at h; omega
  | c :: l, x, h, h0 => by
    simp only [findOf, List.length_cons]
    split
    · omega
    · have := findOf_lt (l := l) (x := x - c) (by simp only [isum] at h; omega) (by omega)
      omega
/-- Number x lies behind the end of symbol i just when its symbol is a later one. -/
theorem findOf_spec : ∀ {l : List Int} {x : Int} {i : Nat}, (∀ y ∈ l, 1 ≤ y) → i < l.length → (x < isum (l.take (i + 1)) ↔ findOf l x ≤ i)
  | [], _, _, _, h => absurd h (by simp)
  | c :: l, x, 0, hp, _ => by
    simp only [List.take_succ_cons, List.take_zero, isum, findOf]
    split <;> omega
  | c :: l, x, i + 1, hp, h => by
    have h2 : i < l.length := by simpa using h
    have hp2 : ∀ y ∈ l, 1 ≤ y := fun y hy => hp y (by simp [hy])
    have ih := findOf_spec (x := x - c) hp2 h2
    have h0 := isum_take_nonneg hp2 (i + 1)
    simp only [List.take_succ_cons, isum, findOf]
    split
    · constructor
      · intro _; omega
      · intro _; omega
    · constructor
      · intro hx; have := ih.1 (by omega); omega
      · intro hx; have := ih.2 (by omega); omega
theorem findOf_in {l : List Int} {x : Int} {s : Nat} (hp : ∀ y ∈ l, 1 ≤ y) (hs : s < l.length) : findOf l x = s ↔ (x < isum (l.take (s + 1)) ∧ (s = 0 ∨ isum (l.take s) ≤ x)) := by
  have h1 := findOf_spec (x := x) hp hs
  cases s with
  | zero =>
    constructor
    · intro h; exact ⟨h1.2 (by omega), .inl rfl⟩
    · intro h; have := h1.1 h.1; omega
  | succ s =>
    have h2 := findOf_spec (x := x) (i := s) hp (by omega)
    constructor
    · intro h
      refine ⟨h1.2 (by omega), .inr ?_⟩
      apply Int.not_lt.1
      intro hc
      have := h2.1 hc; omega
    · intro ⟨ha, hb⟩
      have h3 := h1.1 ha
      have h4 : ¬ findOf l x ≤ s := fun hc => by
        have := h2.2 hc; omega
      omega

/-- Halved, upwards. -/
def halveOf (cs : List Int) : List Int := cs.map fun c => (c + 1) / 2
/-- A bump of a symbol that is there. -/
def bumpOf (cs : List Int) (s : Nat) : List Int :=
  if 65536 < isum cs + 32 then halveOf (cs.set s (cs.getD s 0 + 32)) else cs.set s (cs.getD s 0 + 32)
theorem halveOf_sum : ∀ (l : List Int), (∀ x ∈ l, 1 ≤ x) → isum l ≤ 2 * isum (halveOf l) ∧ 2 * isum (halveOf l) ≤ isum l + l.length
  | [], _ => by simp [isum, halveOf]
  | x :: l, h => by
    have h1 := h x (by simp)
    have h2 := halveOf_sum l (fun y hy => h y (by simp [hy]))
    unfold halveOf at h2 ⊢
    simp only [List.map_cons, isum, List.length_cons]
    omega
theorem getD_get {l : List Int} {i : Nat} (h : i < l.length) : l.getD i 0 = l[i] := by
  rw [List.getD, List.getElem?_eq_getElem h]; rfl
theorem bumpOf_length (cs : List Int) (s : Nat) : (bumpOf cs s).length = cs.length := by
  unfold bumpOf halveOf; split <;> simp
theorem set_pos {cs : List Int} {s : Nat} {v : Int} (hp : ∀ y ∈ cs, 1 ≤ y) (hv : 1 ≤ v) : ∀ y ∈ cs.set s v, 1 ≤ y := by
  intro y hy
  rcases List.mem_or_eq_of_mem_set hy with h | h
  · exact hp y h
  · omega
theorem bump_sum {cs : List Int} {s : Nat} (hs : s < cs.length) : isum (cs.set s (cs.getD s 0 + 32)) = isum cs + 32 := by
  rw [isum_set hs, getD_get hs]; omega
theorem bumpOf_ok {cs : List Int} {s : Nat} (h : Vt cs) (hs : s < cs.length) : Vt (bumpOf cs s) := by
  obtain ⟨h1, h2, h3, h4⟩ := h
  have hl := bumpOf_length cs s
  have hm := h3 _ (List.getElem_mem hs)
  have hp := set_pos (cs := cs) (s := s) (v := cs.getD s 0 + 32) h3 (by rw [getD_get hs]; omega)
  have hsum := bump_sum hs
  refine ⟨by omega, by omega, ?_, ?_⟩
  · unfold bumpOf
    split
    · intro y hy
      simp only [halveOf, List.mem_map] at hy
      obtain ⟨z, hz, rfl⟩ := hy
      have := hp z hz
      omega
    · exact hp
  · unfold bumpOf
    split
    · have h5 := halveOf_sum _ hp
      rw [List.length_set] at h5
      omega
    · omega

end Go.Proofs.Ytbhpcpcpccmacaa

namespace Go.Proofs.Ytbhpcpcpccmacaa
open Go.RowKit

theorem info_iv : (Try.prog.info? 3).map (fun i => (i.zero, i.size, i.bytes)) = some (some (.int .i64 0), 1, 8) := by kernel_rfl
theorem iv_one (xs : List Int) : ∀ u ∈ xs.map iv, u.oneCell' = true := by
  intro u hu
  simp only [List.mem_map] at hu
  obtain ⟨x, _, rfl⟩ := hu
  rfl
theorem iv_get {xs : List Int} {i : Nat} (h : i < xs.length) : (xs.map iv)[i]? = some (.int .i64 xs[i]) := by
  simp [iv, List.getElem?_eq_getElem h]

/-- A table of counts. -/
def Tbl (b : Nat) (cs : List Int) : HP := HP.ex fun sv => HP.all [HP.pt b #[sv, .int .i64 (isum cs)] 110, HP.row 3 1 sv cs.length (cs.map iv)]
theorem Tbl.open {w : World} {b : Nat} {cs : List Int} {R : List HP} (h : Sep w (Tbl b cs :: R)) :
    ∃ sv, Sep w (HP.pt b #[sv, .int .i64 (isum cs)] 110 :: HP.row 3 1 sv cs.length (cs.map iv) :: R) := by
  obtain ⟨sv, h⟩ := h.ex_elim
  exact ⟨sv, h.all_elim⟩
theorem Tbl.shut {w : World} {b : Nat} {cs : List Int} {sv : Value} {R : List HP} (h : Sep w (HP.pt b #[sv, .int .i64 (isum cs)] 110 :: HP.row 3 1 sv cs.length (cs.map iv) :: R)) : Sep w (Tbl b cs :: R) :=
  Sep.ex_intro sv (Sep.all_intro h)

set_option maxRecDepth 100000 in
set_option maxHeartbeats 1000000 in
theorem symbols_calls {b : Nat} {cs : List Int} {R : List HP} {w : World} (H : Sep w (Tbl b cs :: R)) :
    Calls Try.prog 82 #[.pointer (some ⟨b, 0, none⟩)] w fun e w' => e = .returned (.int .i64 (cs.length : Int)) ∧ w = w' := by
  obtain ⟨sv, H⟩ := Tbl.open H
  have c0 := H.cell 0 rfl
  obtain ⟨a, cap, rfl⟩ := H.tail.row_form
  go_enter Try.func82, Try.ntmps82
  go_wp2_with fail
  go_ret
  exact ⟨rfl, rfl⟩

set_option maxRecDepth 100000 in
set_option maxHeartbeats 1000000 in
theorem total_calls {b : Nat} {cs : List Int} {R : List HP} {w : World} (H : Sep w (Tbl b cs :: R)) :
    Calls Try.prog 96 #[.pointer (some ⟨b, 0, none⟩)] w fun e w' => e = .returned (.int .i64 (isum cs)) ∧ w = w' := by
  obtain ⟨sv, H⟩ := Tbl.open H
  have c1 := H.cell 1 rfl
  go_enter Try.func96, Try.ntmps96
  go_wp2_with fail
  go_ret
  exact ⟨rfl, rfl⟩

set_option maxRecDepth 100000 in
set_option maxHeartbeats 1000000 in
theorem has_calls {b : Nat} {cs : List Int} {i : Int} {R : List HP} {w : World} (H : Sep w (Tbl b cs :: R)) :
    Calls Try.prog 85 #[.pointer (some ⟨b, 0, none⟩), .int .i64 i] w fun e w' => e = .returned (.bool (decide (0 ≤ i ∧ i < cs.length))) ∧ w = w' := by
  by_cases h0 : 0 ≤ i
  · go_enter Try.func85, Try.ntmps85
    go_wp2_with fail
    refine (symbols_calls H).mono ?_
    rintro e w1 ⟨rfl, rfl⟩
    go_wp2_with fail
    go_ret
    exact ⟨by simp [h0], rfl⟩
  · have hd : decide (0 ≤ i ∧ i < cs.length) = false := decide_eq_false (by omega)
    rw [hd]
    go_enter Try.func85, Try.ntmps85
    go_wp2_with fail
    go_ret
    exact ⟨rfl, rfl⟩

/-- The sum of the counts below a symbol; 0 if there is none. -/
def lowI (cs : List Int) (i : Int) : Int := if 0 ≤ i ∧ i < cs.length then isum (cs.take i.toNat) else 0
def countI (cs : List Int) (i : Int) : Int := if 0 ≤ i ∧ i < cs.length then cs.getD i.toNat 0 else 0

set_option maxRecDepth 100000 in
set_option maxHeartbeats 1000000 in
theorem count_calls {b : Nat} {cs : List Int} {i : Int} {R : List HP} {w : World} (H : Sep w (Tbl b cs :: R)) :
    Calls Try.prog 98 #[.pointer (some ⟨b, 0, none⟩), .int .i64 i] w fun e w' => e = .returned (.int .i64 (countI cs i)) ∧ w = w' := by
  by_cases h0 : 0 ≤ i ∧ i < cs.length
  · obtain ⟨k, rfl⟩ := Int.eq_ofNat_of_zero_le h0.1
    have hk : k < cs.length := by omega
    have hd : decide (0 ≤ (k : Int) ∧ (k : Int) < cs.length) = true := decide_eq_true h0
    have hr : countI cs k = cs[k] := by unfold countI; rw [if_pos h0, Int.toNat_natCast, getD_get hk]
    have H0 := H
    obtain ⟨sv, H⟩ := Tbl.open H
    have c0 := H.cell 0 rfl
    obtain ⟨g, cap, cur, rfl, -⟩ := H.tail.row_open (by omega)
    have c1 : w.cell? ⟨g, k, none⟩ = some (.int .i64 cs[k]) := H.tail.row_cell k (iv_get hk)
    rw [hr]
    clear hr h0
    generalize cs[k] = x at c1 ⊢
    go_enter Try.func98, Try.ntmps98
    go_wp2_with fail
    refine (has_calls H0).mono ?_
    rintro e w1 ⟨rfl, rfl⟩
    rw [hd]
    go_wp2_with fail
    go_ret
    exact ⟨rfl, rfl⟩
  · have hd : decide (0 ≤ i ∧ i < cs.length) = false := decide_eq_false h0
    have hr : countI cs i = 0 := by unfold countI; rw [if_neg h0]
    rw [hr]
    go_enter Try.func98, Try.ntmps98
    go_wp2_with fail
    refine (has_calls H).mono ?_
    rintro e w1 ⟨rfl, rfl⟩
    rw [hd]
    go_wp2_with fail
    go_ret
    exact ⟨rfl, rfl⟩

set_option maxRecDepth 100000 in
set_option maxHeartbeats 1000000 in
theorem low_calls {b : Nat} {cs : List Int} {i : Int} {R : List HP} {w : World} (hv : Vt cs) (H : Sep w (Tbl b cs :: R)) :
    Calls Try.prog 97 #[.pointer (some ⟨b, 0, none⟩), .int .i64 i] w fun e w' => e = .returned (.int .i64 (lowI cs i)) ∧ w = w' := by
  by_cases h0 : 0 ≤ i ∧ i < cs.length
  · obtain ⟨k, rfl⟩ := Int.eq_ofNat_of_zero_le h0.1
    have hk : k < cs.length := by omega
    have hd : decide (0 ≤ (k : Int) ∧ (k : Int) < cs.length) = true := decide_eq_true h0
    have hr : lowI cs k = isum (cs.take k) := by unfold lowI; rw [if_pos h0, Int.toNat_natCast]
    have H0 := H
    obtain ⟨sv, H⟩ := Tbl.open H
    have c0 := H.cell 0 rfl
    obtain ⟨g, cap, cur, rfl, hcap⟩ := H.tail.row_open (by omega)
    rw [hr]
    have hlen := hv.2.1
    have HV := Lib.hid hv
    clear hr h0 hv
    go_enter Try.func97, Try.ntmps97
    go_wp2_with fail
    refine (has_calls H0).mono ?_
    rintro e w1 ⟨rfl, rfl⟩
    rw [hd]
    go_wp2_with fail
    go_loopg [5, 7, 19] k (fun gk n _ j wr => wr = w ∧ ∃ t : Nat, Hid (t ≤ k ∧ gk = k - t) ∧ n = .int .i64 (isum (cs.take t)) ∧ j = .int .i64 (t : Int))
    case atStart => exact ⟨rfl, 0, Lib.hid ⟨by omega, rfl⟩, rfl, rfl⟩
    case round =>
      obtain ⟨rfl, t, hq, rfl, rfl⟩ := hrel
      obtain ⟨q1, q2⟩ := hq.out
      by_cases c : t < k
      · have c1 : wr.cell? ⟨g, t, none⟩ = some (.int .i64 cs[t]) := H.tail.row_cell t (iv_get (by omega))
        have hs := isum_take_succ (l := cs) (i := t) (by omega)
        have b1 := isum_take_le HV.out.2.2.1 (t + 1)
        have b2 := isum_take_nonneg HV.out.2.2.1 t
        have b3 := HV.out.2.2.2
        have b4 := HV.out.2.2.1 _ (List.getElem_mem (show t < cs.length by omega))
        generalize isum (cs.take t) = X at *
        generalize cs[t] = x at c1 hs b4
        have HS := Lib.hid hs
        have bx : X + x ≤ 65536 := by omega
        clear hs b1
        go_wp2_with fail
        go_roundg (k - (t + 1))
        case rel => exact ⟨rfl, t + 1, Lib.hid ⟨by omega, rfl⟩, by rw [HS.out], by go_num⟩
        case measure => omega
      · obtain rfl : t = k := by omega
        go_wp2_with fail
        go_ret
        exact ⟨rfl, rfl⟩
  · have hd : decide (0 ≤ i ∧ i < cs.length) = false := decide_eq_false h0
    have hr : lowI cs i = 0 := by unfold lowI; rw [if_neg h0]
    rw [hr]
    go_enter Try.func97, Try.ntmps97
    go_wp2_with fail
    refine (has_calls H).mono ?_
    rintro e w1 ⟨rfl, rfl⟩
    rw [hd]
    go_wp2_with fail
    go_ret
    exact ⟨rfl, rfl⟩

end Go.Proofs.Ytbhpcpcpccmacaa

namespace Go.Proofs.Ytbhpcpcpccmacaa
open Go.RowKit

set_option maxRecDepth 100000 in
set_option maxHeartbeats 1000000 in
theorem min_calls {g o cap : Nat} {xs : List Int} {w : World} (h1 : 1 ≤ xs.length) (hl : xs.length ≤ 256) (hrd : RdS w (.slice (some ⟨g, o, none⟩) xs.length cap) xs.length 1 (xs.map iv)) :
    Calls Try.prog 80 #[.slice (some ⟨g, o, none⟩) xs.length cap] w fun e w' => w = w' ∧ ∃ m : Int, e = .returned (.int .i64 m) ∧ (1 ≤ m ↔ ∀ x ∈ xs, 1 ≤ x) := by
  have c0 : w.cell? ⟨g, o + 0, none⟩ = some (.int .i64 xs[0]) := hrd.cell 0 (iv_get (by omega))
  rw [Nat.add_zero] at c0
  go_enter Try.func80, Try.ntmps80
  go_wp2_with fail
  go_loopg [3, 4] (xs.length - 1) (fun gk m i wr => wr = w ∧ ∃ t : Nat, ∃ y : Int, Hid (1 ≤ t ∧ t ≤ xs.length ∧ gk = xs.length - t) ∧ Hid (1 ≤ y ↔ ∀ x ∈ xs.take t, 1 ≤ x) ∧ m = .int .i64 y ∧ i = .int .i64 (t : Int))
  case atStart => exact ⟨rfl, 1, xs[0], Lib.hid ⟨by omega, by omega, rfl⟩, Lib.hid (by rw [List.take_succ_eq_append_getElem (by omega)]; simp), rfl, rfl⟩
  case round =>
    obtain ⟨rfl, t, y, hq, hy, rfl, rfl⟩ := hrel
    obtain ⟨q0, q1, q2⟩ := hq.out
    clear hq
    by_cases c : t < xs.length
    · have c1 : wr.cell? ⟨g, o + t, none⟩ = some (.int .i64 xs[t]) := hrd.cell t (iv_get c)
      have HN : Hid (∀ m : Int, m = min y xs[t] → (1 ≤ m ↔ ∀ x ∈ xs.take (t + 1), 1 ≤ x)) := Lib.hid fun m hm => by
        rw [List.take_succ_eq_append_getElem c]
        have := hy.out
        constructor
        · intro h x hx
          rcases List.mem_append.1 hx with hx | hx
          · exact this.1 (by omega) x hx
          · have : x = xs[t] := by simpa using hx
            omega
        · intro h
          have h2 := this.2 (fun x hx => h x (List.mem_append_left _ hx))
          have h3 := h xs[t] (List.mem_append_right _ (List.mem_singleton.2 rfl))
          omega
      generalize xs[t] = x at c1 HN
      by_cases cm : y ≤ x
      · have HN2 := Lib.hid (HN.out y (by omega))
        go_wp2_with fail
        go_roundg (xs.length - (t + 1))
        case rel => exact ⟨rfl, t + 1, y, Lib.hid ⟨by omega, by omega, rfl⟩, HN2, by go_num, by go_num⟩
        case measure => omega
      · have HN2 := Lib.hid (HN.out x (by omega))
        go_wp2_with fail
        go_roundg (xs.length - (t + 1))
        case rel => exact ⟨rfl, t + 1, x, Lib.hid ⟨by omega, by omega, rfl⟩, HN2, by go_num, by go_num⟩
        case measure => omega
    · obtain rfl : t = xs.length := by omega
      go_wp2_with fail
      go_ret
      have := hy.out
      rw [List.take_length] at this
      exact ⟨rfl, y, rfl, this⟩

set_option maxRecDepth 100000 in
set_option maxHeartbeats 1000000 in
theorem sclone_calls {g o cap : Nat} {xs : List Int} {R : List HP} {w : World} (hl : xs.length ≤ 256) (hrd : Reads R (.slice (some ⟨g, o, none⟩) xs.length cap) xs.length 1 (xs.map iv)) (H : Sep w R) :
    Calls Try.prog 81 #[.slice (some ⟨g, o, none⟩) xs.length cap] w (Gives fun r w' => Sep w' (HP.row 3 1 r xs.length (xs.map iv) :: R)) := by
  have h63 : 0 + xs.length ≤ maxLen := by unfold maxLen; omega
  have hby : (0 + xs.length) * 8 ≤ 140737488355328 := by omega
  have hnil := fun w1 => Lib.run_eql_slice_nil (P := Try.prog) w1 40 3 (some ⟨g, o, none⟩) xs.length cap 0 0 rfl
  have HE : Sep (w.alloc (.cells #[] 3)) (HP.row 3 1 (.slice (some ⟨w.heap.size, 0, none⟩) 0 0) 0 [] :: R) :=
    Sep.row_shut (H.alloc #[] 3) (Nat.le_refl _) (by unfold maxLen; omega) rfl rfl
  have hrd1 := hrd _ HE.tail
  go_enter Try.func81, Try.ntmps81
  go_wp2_with ((at_builtin; go_must (refine wpList_append_src rfl (.tmp 5) (.tmp 6) 40 rfl 3 (.int .i64 0) 1 8 Try.underlying40 info_iv rfl (by decide) (.slice (some ⟨w.heap.size, 0, none⟩) 0 0) 0 [] rfl HE (.slice (some ⟨g, o, none⟩) xs.length cap) _ _ rfl hrd1 (iv_one _) h63 hby ?_); intro v3 w3 H3; rw [Nat.zero_add, List.nil_append] at H3; obtain ⟨va, vc, hv3⟩ := H3.row_form; subst hv3))
  go_ret
  exact ⟨_, rfl, H3⟩

/-- What New gives. -/
def NewPost (xs : List Int) (R : List HP) (r : Value) (w' : World) : Prop :=
  (tabErr xs ≠ 0 ∧ r = .tuple #[.pointer none, .int .i64 (tabErr xs : Int)] ∧ Sep w' R) ∨
  (tabErr xs = 0 ∧ ∃ b, r = .tuple #[.pointer (some ⟨b, 0, none⟩), .int .i64 0] ∧ Sep w' (Tbl b xs :: R))

set_option maxRecDepth 100000 in
set_option maxHeartbeats 1000000 in
theorem new_calls {v : Value} {xs : List Int} {R : List HP} {w : World} (hrd : Reads R v xs.length 1 (xs.map iv)) (H : Sep w R) :
    Calls Try.prog 56 #[v] w (Gives (NewPost xs R)) := by
  have hr0 := hrd w H
  by_cases h0 : xs.length < 1
  · have he : tabErr xs = 1 := by unfold tabErr; rw [if_pos (.inl h0)]
    obtain ⟨a, cap, rfl⟩ := hr0.form
    have h0' : ((xs.length : Int) == 0) = true := by rw [beq_iff_eq]; omega
    have HE := Lib.hid he
    clear he
    go_enter Try.func56, Try.ntmps56
    go_wp2_with fail
    go_ret2
    exact ⟨_, rfl, .inl ⟨by rw [HE.out]; decide, by rw [HE.out]; rfl, H⟩⟩
  have hne : ((xs.length : Int) == 0) = false := by rw [beq_eq_false_iff_ne]; omega
  by_cases h1 : 256 < xs.length
  · have he : tabErr xs = 1 := by unfold tabErr; rw [if_pos (.inr h1)]
    obtain ⟨a, cap, rfl⟩ := hr0.form
    have HE := Lib.hid he
    clear he
    go_enter Try.func56, Try.ntmps56
    go_wp2_with fail
    go_ret2
    exact ⟨_, rfl, .inl ⟨by rw [HE.out]; decide, by rw [HE.out]; rfl, H⟩⟩
  obtain ⟨g, o, cap, rfl⟩ := hr0.open (by omega)
  have hl : xs.length ≤ 256 := by omega
  by_cases h2 : ∀ x ∈ xs, 1 ≤ x
  · have HC := Lib.hid (fun (w1 : World) => sclone_calls (w := w1) hl hrd)
    have HRD := Lib.hid hrd
    have HCB : Hid (∀ t, t ≤ xs.length → 0 ≤ capSum (xs.take t) ∧ capSum (xs.take t) ≤ 16777472) := Lib.hid fun t ht => by
      have := capSum_bnd (l := xs.take t) (fun x hx => h2 x (List.mem_of_mem_take hx))
      have h3 : (xs.take t).length ≤ 256 := by rw [List.length_take]; omega
      omega
    have HBIG := Lib.hid (capSum_big h2)
    have H2 := Lib.hid h2
    clear h2 hrd
    go_enter Try.func56, Try.ntmps56
    go_wp2_with fail
    refine (min_calls (by omega) hl hr0).mono ?_
    rintro e w1 ⟨rfl, m, rfl, hm⟩
    have hm1 := hm.2 H2.out
    clear hm
    go_wp2_with fail
    refine (HC.out _ H).mono ?_
    rintro e w1 ⟨v, rfl, H1⟩
    clear H hr0
    obtain ⟨ra, rc, rfl⟩ := H1.row_form
    have H3 := H1.alloc #[.slice ra xs.length rc, .int .i64 0] 110
    go_wp2_with fail
    generalize w1.heap.size = b at H3 ⊢
    generalize w1.alloc (.cells #[.slice ra xs.length rc, .int .i64 0] 110) = w2 at H3 ⊢
    go_loopg [6, 24] xs.length (fun gk _ i wr => ∃ t : Nat, Hid (t ≤ xs.length ∧ gk = xs.length - t) ∧ i = .int .i64 (t : Int) ∧ Sep wr (HP.pt b #[.slice ra xs.length rc, .int .i64 (capSum (xs.take t))] 110 :: HP.row 3 1 (.slice ra xs.length rc) xs.length (xs.map iv) :: R))
    case atStart => exact ⟨0, Lib.hid ⟨by omega, rfl⟩, rfl, H3⟩
    case round =>
      clear H3 H1
      obtain ⟨t, hq, rfl, Hr⟩ := hrel
      obtain ⟨q1, q2⟩ := hq.out
      clear hq
      have c1 := Hr.cell 1 rfl
      have f1 := Hr.froz 1
      by_cases c : t < xs.length
      · have c2 : wr.cell? ⟨g, o + t, none⟩ = some (.int .i64 xs[t]) := (HRD.out _ Hr.tail.tail).cell t (iv_get c)
        have hb1 := HCB.out t q1
        have hb2 := HCB.out (t + 1) c
        have hs := capSum_take_succ c
        have hx := H2.out _ (List.getElem_mem c)
        generalize capSum (xs.take t) = X at *
        generalize xs[t] = x at c2 hs hx
        have HS := Lib.hid hs
        rw [hs] at hb2
        clear hs
        have Hn := Hr.set 1 (.int .i64 (X + min x 65537))
        by_cases cm : x ≤ 65537
        · have hmin : min x 65537 = x := by omega
          rw [hmin] at Hn HS hb2
          go_wp2_with fail
          go_roundg (xs.length - (t + 1))
          case rel => exact ⟨t + 1, Lib.hid ⟨by omega, rfl⟩, by go_num, by rw [HS.out]; exact Hn⟩
          case measure => omega
        · have hmin : min x 65537 = 65537 := by omega
          rw [hmin] at Hn HS hb2
          go_wp2_with fail
          go_roundg (xs.length - (t + 1))
          case rel => exact ⟨t + 1, Lib.hid ⟨by omega, rfl⟩, by go_num, by rw [HS.out]; exact Hn⟩
          case measure => omega
      · obtain rfl : t = xs.length := by omega
        rw [List.take_length] at c1 Hr
        by_cases cf : 65536 < capSum xs
        · have he : tabErr xs = 7 := by
            unfold tabErr; rw [if_neg (by omega), if_neg (fun h => h H2.out), if_pos (by have := HBIG.out.1; omega)]
          have HE := Lib.hid he
          clear he
          generalize capSum xs = X at *
          go_wp2_with fail
          go_ret2
          exact ⟨_, rfl, .inl ⟨by rw [HE.out]; decide, by rw [HE.out]; rfl, Hr.tail.tail⟩⟩
        · have hbig := HBIG.out.2 (by omega)
          have he : tabErr xs = 0 := by
            unfold tabErr; rw [if_neg (by omega), if_neg (fun h => h H2.out), if_neg (by omega)]
          have HE := Lib.hid he
          clear he
          rw [hbig] at Hr c1
          rw [hbig] at cf
          clear hbig
          generalize hX : isum xs = X at *
          go_wp2_with fail
          go_ret2
          exact ⟨_, rfl, .inr ⟨HE.out, b, rfl, Tbl.shut (by rw [hX]; exact Hr)⟩⟩
  · have he : tabErr xs = 2 := by unfold tabErr; rw [if_neg (by omega), if_pos h2]
    have HE := Lib.hid he
    have H2 := Lib.hid h2
    clear he h2
    go_enter Try.func56, Try.ntmps56
    go_wp2_with fail
    refine (min_calls (by omega) hl hr0).mono ?_
    rintro e w1 ⟨rfl, m, rfl, hm⟩
    have hm1 : m < 1 := by
      apply Int.not_le.1
      intro h
      exact H2.out (hm.1 h)
    clear hm
    go_wp2_with fail
    go_ret2
    exact ⟨_, rfl, .inl ⟨by rw [HE.out]; decide, by rw [HE.out]; rfl, H⟩⟩

end Go.Proofs.Ytbhpcpcpccmacaa

namespace Go.Proofs.Ytbhpcpcpccmacaa
open Go.RowKit

def bumpI (cs : List Int) (i : Int) : List Int := if 0 ≤ i ∧ i < cs.length then bumpOf cs i.toNat else cs
def bumpE (cs : List Int) (i : Int) : Nat := if 0 ≤ i ∧ i < cs.length then 0 else 2
theorem bumpI_ok {cs : List Int} {i : Int} (h : Vt cs) : Vt (bumpI cs i) := by
  unfold bumpI
  split
  · exact bumpOf_ok h (by omega)
  · exact h
theorem bumpI_length (cs : List Int) (i : Int) : (bumpI cs i).length = cs.length := by
  unfold bumpI; split
  · exact bumpOf_length _ _
  · rfl

/-- Halved up to a place. -/
def halfTo (cs : List Int) (t : Nat) : List Int := halveOf (cs.take t) ++ cs.drop t
theorem halfTo_length (cs : List Int) (t : Nat) (_h : t ≤ cs.length) : (halfTo cs t).length = cs.length := by
  unfold halfTo halveOf; simp; omega
theorem halfTo_get {cs : List Int} {t : Nat} (h : t < cs.length) : (halfTo cs t)[t]? = some cs[t] := by
  unfold halfTo halveOf
  rw [List.getElem?_append_right (by simp; omega)]
  simp [Nat.min_eq_left (Nat.le_of_lt h), h]
theorem halfTo_set {cs : List Int} {t : Nat} (h : t < cs.length) : (halfTo cs t).set t ((cs[t] + 1) / 2) = halfTo cs (t + 1) := by
  unfold halfTo halveOf
  have hl : (List.map (fun c => (c + 1) / 2) (cs.take t)).length = t := by simp; omega
  rw [List.set_append_right _ _ (by omega), hl, Nat.sub_self, ← List.getElem_cons_drop h, List.set_cons_zero, List.take_succ_eq_append_getElem h, List.map_append]
  simp
theorem halfTo_all (cs : List Int) : halfTo cs cs.length = halveOf cs := by
  unfold halfTo; rw [List.take_length, List.drop_length, List.append_nil]
theorem halve_take_succ {cs : List Int} {t : Nat} (h : t < cs.length) : isum (halveOf (cs.take (t + 1))) = isum (halveOf (cs.take t)) + (cs[t] + 1) / 2 := by
  unfold halveOf
  rw [List.take_succ_eq_append_getElem h, List.map_append, isum_append]; simp [isum]

theorem Tbl.shut2 {w : World} {b n : Nat} {s : Int} {cs : List Int} {sv : Value} {R : List HP} (hs : s = isum cs) (hn : n = cs.length) (h : Sep w (HP.pt b #[sv, .int .i64 s] 110 :: HP.row 3 1 sv n (cs.map iv) :: R)) : Sep w (Tbl b cs :: R) := by
  subst hs
  subst hn
  exact Tbl.shut h

set_option maxRecDepth 100000 in
set_option maxHeartbeats 1000000 in
theorem bump_calls {b : Nat} {cs : List Int} {i : Int} {R : List HP} {w : World} (hv : Vt cs) (H : Sep w (Tbl b cs :: R)) :
    Calls Try.prog 58 #[.pointer (some ⟨b, 0, none⟩), .int .i64 i] w fun e w' => e = .returned (.int .i64 (bumpE cs i : Int)) ∧ Sep w' (Tbl b (bumpI cs i) :: R) := by
  by_cases h0 : 0 ≤ i ∧ i < cs.length
  · obtain ⟨k, rfl⟩ := Int.eq_ofNat_of_zero_le h0.1
    have hk : k < cs.length := by omega
    have hd : decide (0 ≤ (k : Int) ∧ (k : Int) < cs.length) = true := decide_eq_true h0
    have hr : bumpI cs k = bumpOf cs k := by unfold bumpI; rw [if_pos h0, Int.toNat_natCast]
    have he : bumpE cs k = 0 := by unfold bumpE; rw [if_pos h0]
    rw [hr, he]
    have H0 := H
    obtain ⟨sv, H⟩ := Tbl.open H
    have c0 := H.cell 0 rfl
    have c1 := H.cell 1 rfl
    have f1 := H.froz 1
    obtain ⟨g, cap, cur, rfl, -⟩ := H.tail.row_open (by omega)
    have r0 : w.cell? ⟨g, k, none⟩ = some (.int .i64 cs[k]) := H.tail.row_cell k (iv_get hk)
    have r1 := H.tail.row_froz k
    have hx := hv.2.2.1 _ (List.getElem_mem hk)
    have hxs : cs[k] ≤ 65536 := by
      have h1 := isum_take_succ hk
      have h2 := isum_take_le hv.2.2.1 (k + 1)
      have h3 := isum_take_nonneg hv.2.2.1 k
      have h4 := hv.2.2.2
      omega
    have hs := isum_nonneg hv.2.2.1
    have hs2 := hv.2.2.2
    have hset := bump_sum hk
    have hpos : ∀ y ∈ cs.set k (cs.getD k 0 + 32), 1 ≤ y := set_pos hv.2.2.1 (by rw [getD_get hk]; omega)
    have hbo : bumpOf cs k = if 65536 < isum cs + 32 then halveOf (cs.set k (cs.getD k 0 + 32)) else cs.set k (cs.getD k 0 + 32) := rfl
    have hdl : (cs.set k (cs.getD k 0 + 32)).length = cs.length := List.length_set
    rw [getD_get hk] at hset hpos hbo hdl
    have hmap : (cs.map iv).set k (.int .i64 (cs[k] + 32)) = (cs.set k (cs[k] + 32)).map iv := by rw [List.map_set]; rfl
    have H1 := H.swap.row_set k (.int .i64 (cs[k] + 32))
    rw [hmap] at H1
    have hlen := hv.2.1
    generalize cs[k] = x at *
    generalize hds : cs.set k (x + 32) = ds at *
    generalize hS : isum cs = s0 at *
    have H2 := H1.swap.set 1 (.int .i64 (s0 + 32))
    have H3 := H2.set 1 (.int .i64 0)
    have d1 : (w.setCell ⟨g, k, none⟩ (.int .i64 (x + 32))).cell? ⟨b, 1, none⟩ = some (.int .i64 s0) := H1.swap.cell 1 rfl
    have df : (w.setCell ⟨g, k, none⟩ (.int .i64 (x + 32))).frozen? ⟨b, 1, none⟩ = false := H1.swap.froz 1
    have e0 : ((w.setCell ⟨g, k, none⟩ (.int .i64 (x + 32))).setCell ⟨b, 1, none⟩ (.int .i64 (s0 + 32))).cell? ⟨b, 0, none⟩ = some (.slice (some ⟨g, 0, none⟩) cs.length cap) := H2.cell 0 rfl
    have e1 : ((w.setCell ⟨g, k, none⟩ (.int .i64 (x + 32))).setCell ⟨b, 1, none⟩ (.int .i64 (s0 + 32))).cell? ⟨b, 1, none⟩ = some (.int .i64 (s0 + 32)) := H2.cell 1 rfl
    have ef : ((w.setCell ⟨g, k, none⟩ (.int .i64 (x + 32))).setCell ⟨b, 1, none⟩ (.int .i64 (s0 + 32))).frozen? ⟨b, 1, none⟩ = false := H2.froz 1
    have k0 : (((w.setCell ⟨g, k, none⟩ (.int .i64 (x + 32))).setCell ⟨b, 1, none⟩ (.int .i64 (s0 + 32))).setCell ⟨b, 1, none⟩ (.int .i64 0)).cell? ⟨b, 0, none⟩ = some (.slice (some ⟨g, 0, none⟩) cs.length cap) := H3.cell 0 rfl
    replace H2 := Lib.hid H2
    replace H3 := Lib.hid H3
    clear H1 hr he h0 hv hmap hds
    by_cases hbig : 65536 < s0 + 32
    · rw [if_pos hbig] at hbo
      have HBO := Lib.hid hbo
      clear hbo
      go_enter Try.func58, Try.ntmps58
      go_wp2_with fail
      refine (has_calls H0).mono ?_
      rintro e w1 ⟨rfl, rfl⟩
      rw [hd]
      go_wp2_with fail
      have HB : Hid (∀ t, 0 ≤ isum (halveOf (ds.take t)) ∧ isum (halveOf (ds.take t)) ≤ 40000) := Lib.hid fun t => by
        have h1 := halveOf_sum (ds.take t) (fun y hy => hpos y (List.mem_of_mem_take hy))
        have h2 := isum_take_le hpos t
        have h3 := isum_take_nonneg hpos t
        have h4 : (ds.take t).length ≤ ds.length := by rw [List.length_take]; omega
        omega
      have HP1 := Lib.hid hpos
      clear hpos H0 H c0 c1 f1 r0 r1 d1 df e0 e1 ef
      have H3' := H3.out
      generalize (((w.setCell ⟨g, k, none⟩ (.int .i64 (x + 32))).setCell ⟨b, 1, none⟩ (.int .i64 (s0 + 32))).setCell ⟨b, 1, none⟩ (.int .i64 0)) = w3 at H3' ⊢
      clear H3 H2 k0
      go_loopg [5, 6, 42] cs.length (fun gk _ _ i wr => ∃ t : Nat, Hid (t ≤ cs.length ∧ gk = cs.length - t) ∧ i = .int .i64 (t : Int) ∧ Sep wr (HP.pt b #[.slice (some ⟨g, 0, none⟩) cs.length cap, .int .i64 (isum (halveOf (ds.take t)))] 110 :: HP.row 3 1 (.slice (some ⟨g, 0, none⟩) cs.length cap) cs.length ((halfTo ds t).map iv) :: R))
      case atStart => exact ⟨0, Lib.hid ⟨by omega, rfl⟩, rfl, H3'⟩
      case round =>
        clear H3'
        obtain ⟨t, hq, rfl, Hr⟩ := hrel
        obtain ⟨q1, q2⟩ := hq.out
        clear hq
        by_cases c : t < cs.length
        · have ct : t < ds.length := by omega
          have c0 : wr.cell? ⟨b, 0, none⟩ = some (.slice (some ⟨g, 0, none⟩) cs.length cap) := Hr.cell 0 rfl
          have r0 : wr.cell? ⟨g, t, none⟩ = some (.int .i64 ds[t]) := Hr.tail.row_cell t (by rw [List.getElem?_map, halfTo_get ct]; rfl)
          have r1 := Hr.tail.row_froz t
          have hmap : ((halfTo ds t).map iv).set t (.int .i64 ((ds[t] + 1) / 2)) = (halfTo ds (t + 1)).map iv := by rw [← halfTo_set ct, List.map_set]; rfl
          have H4 := Hr.swap.row_set t (.int .i64 ((ds[t] + 1) / 2))
          rw [hmap] at H4
          have hsum := halve_take_succ ct
          have hb1 := HB.out t
          have hb2 := HB.out (t + 1)
          have hx1 := HP1.out _ (List.getElem_mem ct)
          have hx2 : ds[t] ≤ 70000 := by
            have h1 := isum_take_succ ct
            have h2 := isum_take_le HP1.out (t + 1)
            have h3 := isum_take_nonneg HP1.out t
            omega
          have hnew : (halfTo ds (t + 1))[t]? = some ((ds[t] + 1) / 2) := by
            rw [← halfTo_set ct, List.getElem?_set_self (by rw [halfTo_length _ _ (by omega)]; exact ct)]
          have r2 : ∀ W, Sep W (HP.row 3 1 (.slice (some ⟨g, 0, none⟩) cs.length cap) cs.length ((halfTo ds (t + 1)).map iv) :: HP.pt b #[.slice (some ⟨g, 0, none⟩) cs.length cap, .int .i64 (isum (halveOf (ds.take t)))] 110 :: R) → W.cell? ⟨g, t, none⟩ = some (.int .i64 ((ds[t] + 1) / 2)) := fun W h => h.row_cell t (by rw [List.getElem?_map, hnew]; rfl)
          rw [hsum] at hb2
          have HS := Lib.hid hsum
          have R2 := Lib.hid r2
          clear hsum hmap hnew Hr r2
          generalize isum (halveOf (ds.take t)) = Y at *
          generalize ds[t] = y at *
          have hdiv : (y + 1).tdiv 2 = (y + 1) / 2 := Int.tdiv_eq_ediv_of_nonneg (by omega)
          go_wp2_with fail
          generalize hz : (y + 1) / 2 = z at *
          generalize wr.setCell ⟨g, t, none⟩ (.int .i64 z) = W at H4 ⊢
          have c0 : W.cell? ⟨b, 0, none⟩ = some (.slice (some ⟨g, 0, none⟩) cs.length cap) := H4.swap.cell 0 rfl
          have c1 : W.cell? ⟨b, 1, none⟩ = some (.int .i64 Y) := H4.swap.cell 1 rfl
          have f1 := H4.swap.froz 1
          have r2 := R2.out _ H4
          have H5 := H4.drew
          clear H4
          (refine wp_region_still_tail 14 (by kernel_rfl) (by kernel_rfl) ?_; simp only [List.take_succ_cons, List.take_zero, List.drop_succ_cons, List.drop_zero]; (repeat (refine wpStill_step (fun K hK => ?_); go_simp; (try go_bits); refine hK _ ?_; clear hK K)); try refine wpStill_nil ?_)
          change wpList _ _ _ _ _ (World.drew W)
          have c0 : W.drew.cell? ⟨b, 0, none⟩ = some (.slice (some ⟨g, 0, none⟩) cs.length cap) := H5.swap.cell 0 rfl
          have c1 : W.drew.cell? ⟨b, 1, none⟩ = some (.int .i64 Y) := H5.swap.cell 1 rfl
          have f1 := H5.swap.froz 1
          have r2 := R2.out _ H5
          generalize W.drew = W2 at *
          have H6 := H5.swap.set 1 (.int .i64 (Y + z))
          go_wp2_with fail
          go_roundg (cs.length - (t + 1))
          case rel => exact ⟨t + 1, Lib.hid ⟨by omega, rfl⟩, by go_num, by rw [HS.out]; exact H6⟩
          case measure => omega
        · obtain rfl : t = cs.length := by omega
          go_wp2_with fail
          go_ret
          rw [HBO.out]
          rw [← hdl, halfTo_all, List.take_length] at Hr
          exact ⟨rfl, Tbl.shut2 rfl (by unfold halveOf; rw [List.length_map]) Hr⟩
    · rw [if_neg hbig] at hbo
      have HBO := Lib.hid hbo
      clear hbo
      go_enter Try.func58, Try.ntmps58
      go_wp2_with fail
      refine (has_calls H0).mono ?_
      rintro e w1 ⟨rfl, rfl⟩
      rw [hd]
      go_wp2_with fail
      go_ret
      rw [HBO.out]
      exact ⟨rfl, Tbl.shut2 hset.symm hdl.symm H2.out⟩
  · have hd : decide (0 ≤ i ∧ i < cs.length) = false := decide_eq_false h0
    have hr : bumpI cs i = cs := by unfold bumpI; rw [if_neg h0]
    have he : bumpE cs i = 2 := by unfold bumpE; rw [if_neg h0]
    rw [hr, he]
    clear hr he
    go_enter Try.func58, Try.ntmps58
    go_wp2_with fail
    refine (has_calls H).mono ?_
    rintro e w1 ⟨rfl, rfl⟩
    rw [hd]
    go_wp2_with fail
    go_ret
    exact ⟨rfl, H⟩

end Go.Proofs.Ytbhpcpcpccmacaa
