/- Reading a long form: plain. num.rest, num.Get. residual: the bits of a row's numbers: plain. -/
import Derived.Test.YtbhpcpcpccmacaaGC
import Derived.Test.YtbhpcpcpccmacaaGD
import Derived.Test.YtbhpcpcpccmacaaMod12

namespace Go.Proofs.Ytbhpcpcpccmacaa
open Go.RowKit

/-- How many noughts lie ahead. -/
def leadN : List Bool → Nat
  | [] => 0
  | true :: _ => 0
  | false :: l => leadN l + 1
theorem leadN_le : ∀ l : List Bool, leadN l ≤ l.length
  | [] => Nat.le_refl _
  | true :: _l => Nat.zero_le _
  | false :: l => Nat.succ_le_succ (leadN_le l)
theorem leadN_false : ∀ (l : List Bool) (j : Nat), j < leadN l → l.getD j false = false
  | [], _, h => absurd h (Nat.not_lt_zero _)
  | true :: l, _, h => absurd h (Nat.not_lt_zero _)
  | false :: l, 0, _ => rfl
  | false :: l, j + 1, h => by
    have := leadN_false l j (Nat.lt_of_succ_lt_succ h)
    simpa using this
theorem leadN_true : ∀ (l : List Bool), leadN l < l.length → l.getD (leadN l) false = true
  | [], h => absurd h (Nat.not_lt_zero _)
  | true :: l, _ => rfl
  | false :: l, h => by
    have := leadN_true l (Nat.lt_of_succ_lt_succ h)
    simpa [leadN] using this
/-- The first 1 lies there. -/
theorem leadN_eq {l : List Bool} {k : Nat} (h0 : ∀ j, j < k → l.getD j false = false) (h1 : l.getD k false = true) : leadN l = k := by
  have hk : k < l.length := by
    apply Nat.lt_of_not_le
    intro hc
    rw [List.getD, List.getElem?_eq_none hc] at h1
    exact absurd h1 (by simp)
  have ha : ¬ leadN l < k := fun h => by
    have := leadN_true l (by omega)
    rw [h0 _ h] at this; cases this
  have hb : ¬ k < leadN l := fun h => by
    have := leadN_false l k h
    rw [h1] at this; cases this
  omega
theorem leadN_none {l : List Bool} (h0 : ∀ j, j < l.length → l.getD j false = false) : leadN l = l.length := by
  have h1 := leadN_le l
  apply Nat.le_antisymm h1
  apply Nat.le_of_not_lt
  intro h
  have := leadN_true l h
  rw [h0 _ h] at this; cases this
theorem leadN_ge {l : List Bool} {k : Nat} (hk : k ≤ l.length) (h0 : ∀ j, j < k → l.getD j false = false) : k ≤ leadN l := by
  apply Nat.le_of_not_lt
  intro h
  have := leadN_true l (by omega)
  rw [h0 _ h] at this; cases this

/-- What comes next: the number, how many bits, the error's number. -/
def getN (l : List Bool) : Nat × Nat × Nat :=
  if 33 ≤ leadN l then (0, 0, 3)
  else if l.length < 2 * leadN l + 1 then (0, 0, 4)
  else if 4294967297 < ofBits ((l.drop (leadN l)).take (leadN l + 1)) then (0, 0, 3)
  else (ofBits ((l.drop (leadN l)).take (leadN l + 1)) - 1, 2 * leadN l + 1, 0)

end Go.Proofs.Ytbhpcpcpccmacaa

namespace Go.Proofs.Ytbhpcpcpccmacaa
open Go.RowKit

theorem take_succ_drop {l : List Bool} {p t : Nat} (h : p + t < l.length) : (l.drop p).take (t + 1) = (l.drop p).take t ++ [l.getD (p + t) false] := by
  rw [List.take_succ_eq_append_getElem (by rw [List.length_drop]; omega)]
  congr 2
  rw [List.getElem_drop, List.getD, List.getElem?_eq_getElem h]; rfl

theorem drop_one {l : List Bool} {p : Nat} (h : p < l.length) (ht : l.getD p false = true) : (l.drop p).take 1 = [true] := by
  have := take_succ_drop (l := l) (p := p) (t := 0) (by omega)
  rw [Nat.zero_add, Nat.add_zero, ht] at this
  simpa using this

theorem ofBits_pos {l : List Bool} {p : Nat} (hp : p < l.length) (ht : l.getD p false = true) : ∀ t : Nat, p + t < l.length → 1 ≤ ofBits ((l.drop p).take (t + 1))
  | 0, _ => by rw [drop_one hp ht]; decide
  | t + 1, h => by
    have ih := ofBits_pos hp ht t (by omega)
    rw [take_succ_drop h, ofBits_snoc]; omega
theorem getD_drop {l : List Bool} {i t : Nat} : (l.drop i).getD t false = l.getD (i + t) false := by
  simp [List.getD, List.getElem?_drop]

/-- What num.rest gives: the 1 lies at p, k bits are to come. -/
def restN (l : List Bool) (p k : Nat) : Nat × Nat :=
  if l.length < p + 1 + k then (0, 4)
  else if 4294967297 < ofBits ((l.drop p).take (k + 1)) then (0, 3)
  else (ofBits ((l.drop p).take (k + 1)) - 1, 0)

set_option maxRecDepth 100000 in
set_option maxHeartbeats 1000000 in
theorem nrest_calls {b p k : Nat} {l : List Bool} {R : List HP} {w : World} (hp : p < l.length) (hk : k ≤ 32) (ht : l.getD p false = true) (hl : l.length ≤ 33554432) (H : Sep w (Rdr b l (p + 1) :: R)) :
    Calls Try.prog 95 #[.pointer (some ⟨b, 0, none⟩), .int .i64 (k : Int)] w fun e w' => e = .returned (.tuple #[.int .u64 ((restN l p k).1 : Int), .int .i64 ((restN l p k).2 : Int)]) ∧
      ∃ j, j ≤ l.length ∧ ((restN l p k).2 = 0 → j = p + 1 + k) ∧ Sep w' (Rdr b l j :: R) := by
  have h1 : ofBits ((l.drop p).take 1) = 1 := by rw [drop_one hp ht]; rfl
  have H1 := Lib.hid h1
  have HL := Lib.hid hl
  have HP1 := Lib.hid (ofBits_pos hp ht)
  clear h1 ht hl
  go_enter Try.func95, Try.ntmps95
  go_wp2_with fail
  go_loopg [6, 7] k (fun gk x left wr => ∃ t : Nat, Hid (t ≤ k ∧ p + 1 + t ≤ l.length ∧ gk = k - t) ∧ left = .int .i64 ((k : Int) - (t : Int)) ∧ x = .int .u64 (ofBits ((l.drop p).take (t + 1)) : Int) ∧ Sep wr (Rdr b l (p + 1 + t) :: R))
  case atStart => exact ⟨0, Lib.hid ⟨by omega, by omega, rfl⟩, by go_num, by rw [H1.out]; rfl, H⟩
  case round =>
    obtain ⟨t, hq, rfl, rfl, Hr⟩ := hrel
    obtain ⟨q1, q2, q3⟩ := hq.out
    clear hq
    by_cases c : t < k
    · by_cases c2 : p + 1 + t < l.length
      · have h2 : ofBits ((l.drop p).take (t + 1 + 1)) = 2 * ofBits ((l.drop p).take (t + 1)) + (l.getD (p + 1 + t) false).toNat := by
          have he : p + 1 + t = p + (t + 1) := by omega
          rw [he, take_succ_drop (by omega), ofBits_snoc]
        have h3 : ofBits ((l.drop p).take (t + 1)) < 4294967296 := by
          have := ofBits_lt ((l.drop p).take (t + 1))
          have h4 : ((l.drop p).take (t + 1)).length ≤ 32 := by rw [List.length_take]; omega
          exact Nat.lt_of_lt_of_le this (Nat.le_trans (Nat.pow_le_pow_right (by omega) h4) (by decide))
        go_wp2_with fail
        refine (rbit_ok c2 HL.out Hr).mono ?_
        rintro e w2 ⟨rfl, H2⟩
        clear Hr
        generalize hx : l.getD (p + 1 + t) false = x at h2
        generalize ofBits ((l.drop p).take (t + 1)) = X at h2 h3
        have H2X := Lib.hid h2
        have H1X := Lib.hid hx
        clear h2 hx
        cases x
        all_goals
          go_wp2_with fail
          go_roundg (k - (t + 1))
          case rel => exact ⟨t + 1, Lib.hid ⟨by omega, by omega, rfl⟩, by go_num, by rw [H2X.out]; go_num, H2⟩
          case measure => omega
      · have hr : restN l p k = (0, 4) := by unfold restN; rw [if_pos (by omega)]
        have HR := Lib.hid hr
        clear hr
        generalize ofBits ((l.drop p).take (t + 1)) = X
        go_wp2_with fail
        refine (rbit_end (by omega) HL.out Hr).mono ?_
        rintro e w2 ⟨rfl, n1, rfl⟩
        have H2 := Hr.drewN n1
        clear Hr
        go_wp2_with fail
        go_ret2
        rw [HR.out]
        refine ⟨rfl, p + 1 + t, by omega, (fun h => by cases h), H2⟩
    · have ht : t = k := by omega
      subst ht
      have h3 : ofBits ((l.drop p).take (t + 1)) < 8589934592 := by
        have := ofBits_lt ((l.drop p).take (t + 1))
        have h4 : ((l.drop p).take (t + 1)).length ≤ 33 := by rw [List.length_take]; omega
        exact Nat.lt_of_lt_of_le this (Nat.le_trans (Nat.pow_le_pow_right (by omega) h4) (by decide))
      by_cases c3 : l.length < p + 1 + t
      · omega
      have h4 : 1 ≤ ofBits ((l.drop p).take (t + 1)) := HP1.out t (by omega)
      by_cases c2 : 4294967297 < ofBits ((l.drop p).take (t + 1))
      · have hr : restN l p t = (0, 3) := by unfold restN; rw [if_neg (by omega), if_pos c2]
        have HR := Lib.hid hr
        clear hr
        generalize ofBits ((l.drop p).take (t + 1)) = X at *
        go_wp2_with fail
        go_ret2
        rw [HR.out]
        exact ⟨rfl, p + 1 + t, by omega, (fun h => by cases h), Hr⟩
      · have hr : restN l p t = (ofBits ((l.drop p).take (t + 1)) - 1, 0) := by unfold restN; rw [if_neg (by omega), if_neg c2]
        have HR := Lib.hid hr
        clear hr
        generalize ofBits ((l.drop p).take (t + 1)) = X at *
        go_wp2_with fail
        go_ret2
        rw [HR.out]
        exact ⟨by go_num, p + 1 + t, by omega, fun _ => rfl, Hr⟩

/-- num.Get: any place of any bits. -/
theorem getN_rest {l : List Bool} {i t : Nat} (hl : leadN (l.drop i) = t) (ht : t ≤ 32) (hi : i + t ≤ l.length) :
    (getN (l.drop i)).1 = (restN l (i + t) t).1 ∧ (getN (l.drop i)).2.2 = (restN l (i + t) t).2 ∧ ((restN l (i + t) t).2 = 0 → (getN (l.drop i)).2.1 = 2 * t + 1) := by
  unfold getN restN
  rw [hl, if_neg (by omega), List.drop_drop, List.length_drop]
  by_cases c : l.length < i + t + 1 + t
  · rw [if_pos (by omega), if_pos c]; exact ⟨rfl, rfl, fun h => by cases h⟩
  rw [if_neg (by omega), if_neg c]
  by_cases c2 : 4294967297 < ofBits ((l.drop (i + t)).take (t + 1))
  · rw [if_pos c2, if_pos c2]; exact ⟨rfl, rfl, fun h => by cases h⟩
  · rw [if_neg c2, if_neg c2]; exact ⟨rfl, rfl, fun _ => rfl⟩

set_option maxRecDepth 100000 in
set_option maxHeartbeats 1000000 in
theorem nget_all {b i : Nat} {l : List Bool} {R : List HP} {w : World} (hi : i ≤ l.length) (hl : l.length ≤ 33554432) (H : Sep w (Rdr b l i :: R)) :
    Calls Try.prog 76 #[.pointer (some ⟨b, 0, none⟩)] w fun e w' => e = .returned (.tuple #[.int .u64 ((getN (l.drop i)).1 : Int), .int .i64 ((getN (l.drop i)).2.2 : Int)]) ∧
      ∃ j, j ≤ l.length ∧ ((getN (l.drop i)).2.2 = 0 → j = i + (getN (l.drop i)).2.1) ∧ Sep w' (Rdr b l j :: R) := by
  have HL := Lib.hid hl
  clear hl
  go_enter Try.func76, Try.ntmps76
  go_wp2_with fail
  go_loopg [4] 33 (fun gk z wr => ∃ t : Nat, Hid (t ≤ 32 ∧ i + t ≤ l.length ∧ gk = 33 - t ∧ ∀ j, j < t → (l.drop i).getD j false = false) ∧ z = .int .i64 (t : Int) ∧ Sep wr (Rdr b l (i + t) :: R))
  case atStart => exact ⟨0, Lib.hid ⟨by omega, by omega, rfl, fun j h => absurd h (by omega)⟩, rfl, H⟩
  case round =>
    obtain ⟨t, hq, rfl, Hr⟩ := hrel
    obtain ⟨q1, q2, q3, q4⟩ := hq.out
    clear hq
    have Q4 := Lib.hid q4
    clear q4
    by_cases c : i + t < l.length
    · have HG := Lib.hid (getD_drop (l := l) (i := i) (t := t))
      go_wp2_with fail
      refine (rbit_ok c HL.out Hr).mono ?_
      rintro e w2 ⟨rfl, H2⟩
      clear Hr
      generalize hx : l.getD (i + t) false = x at HG
      have HX := Lib.hid hx
      clear hx
      cases x
      · have hn : ∀ j, j < t + 1 → (l.drop i).getD j false = false := fun j h => by
          by_cases cj : j < t
          · exact Q4.out j cj
          · have : j = t := by omega
            subst this; exact HG.out
        have HN := Lib.hid hn
        clear hn
        by_cases c2 : t = 32
        · have h33 : getN (l.drop i) = (0, 0, 3) := by
            unfold getN; rw [if_pos (leadN_ge (by rw [List.length_drop]; omega) (by have := HN.out; rw [c2] at this; exact this))]
          have H33 := Lib.hid h33
          clear h33
          go_wp2_with fail
          go_ret2
          rw [H33.out]
          exact ⟨rfl, i + t + 1, by omega, (fun h => by cases h), H2⟩
        · go_wp2_with fail
          go_roundg (33 - (t + 1))
          case rel => exact ⟨t + 1, Lib.hid ⟨by omega, by omega, rfl, HN.out⟩, by go_num, H2⟩
          case measure => omega
      · have hle := leadN_eq Q4.out HG.out
        obtain ⟨g1, g2, g3⟩ := getN_rest hle q1 q2
        have HR := Lib.hid (And.intro g1 (And.intro g2 g3))
        clear g1 g2 g3 hle
        go_wp2_with fail
        refine (nrest_calls c q1 HX.out HL.out H2).mono ?_
        rintro e w3 ⟨rfl, j, j1, j2, H3⟩
        have J2 := Lib.hid j2
        clear H2 j2
        generalize restN l (i + t) t = V at *
        obtain ⟨v1, v2⟩ := V
        go_wp2_with fail
        go_ret2
        obtain ⟨g1, g2, g3⟩ := HR.out
        rw [g1, g2]
        have G3 := Lib.hid g3
        refine ⟨rfl, j, j1, fun h => ?_, H3⟩
        have h1 := J2.out h
        have h2 := G3.out h
        omega
    · have hle : leadN (l.drop i) = t := by
        have := leadN_none (l := l.drop i) (fun j h => Q4.out j (by rw [List.length_drop] at h; omega))
        rw [this, List.length_drop]; omega
      have h4 : getN (l.drop i) = (0, 0, 4) := by
        unfold getN; rw [hle, if_neg (by omega), if_pos (by rw [List.length_drop]; omega)]
      have H4 := Lib.hid h4
      clear h4 hle
      go_wp2_with fail
      refine (rbit_end (by omega) HL.out Hr).mono ?_
      rintro e w2 ⟨rfl, n1, rfl⟩
      have H2 := Hr.drewN n1
      clear Hr
      go_wp2_with fail
      go_ret2
      rw [H4.out]
      exact ⟨rfl, i + t, by omega, (fun h => by cases h), H2⟩

end Go.Proofs.Ytbhpcpcpccmacaa

namespace Go.Proofs.Ytbhpcpcpccmacaa
open Go.RowKit Go.Shelf

theorem leadN_rep (k : Nat) (x : List Bool) : leadN (List.replicate k false ++ true :: x) = k := by
  induction k with
  | zero => rfl
  | succ k ih =>
    rw [List.replicate_succ, List.cons_append]
    show leadN _ + 1 = k + 1
    rw [ih]

theorem longN_cons {n : Nat} (hn : n ≤ 4294967296) : longN n = List.replicate (halfN n) false ++ true :: valBits (n + 1) (halfN n) := by
  unfold longN
  have h1 := halfN_lt hn
  have h2 := halfN_low hn
  have h3 : (n + 1) / 2 ^ halfN n = 1 := by
    rw [Nat.pow_succ] at h1
    refine Nat.div_eq_of_lt_le (by omega) (by omega)
  rw [valBits_cons, Nat.testBit_eq_decide_div_mod_eq, h3]
  rfl

theorem getN_long {n : Nat} (hn : n ≤ 4294967296) (x : List Bool) : getN (longN n ++ x) = (n, sizeN n, 0) := by
  have h1 := halfN_lt hn
  have h3 := halfN_le hn
  have hl : leadN (longN n ++ x) = halfN n := by
    rw [longN_cons hn, List.append_assoc, List.cons_append]; exact leadN_rep _ _
  have hd : ((longN n ++ x).drop (halfN n)).take (halfN n + 1) = valBits (n + 1) (halfN n + 1) := by
    unfold longN
    rw [List.append_assoc, List.drop_left' (by simp), List.take_left' (by rw [valBits_length])]
  unfold getN
  rw [hl, if_neg (by omega), if_neg (by rw [List.length_append, longN_length]; unfold sizeN; omega), hd, ofBits_valBits _ _ h1, if_neg (by omega)]
  rfl

theorem openBits_whole {bs : List Nat} (h : bs.length ≤ 4194304) : openBits bs ((8 * bs.length : Nat) : Int) = (0, allBits bs) := by
  unfold openBits
  rw [if_neg (by omega), if_neg (by omega), if_neg (by omega), if_neg (by omega), List.take_of_length_le (by rw [allBits_length]; omega)]
theorem allBits_pk {l : List Bool} (h : l.length ≤ 33554432) : ∃ x, allBits (pk l) = l ++ x := by
  obtain ⟨-, -, -, -, -, h2, -⟩ := openBits_ok (fun x hx => pk_lt l x hx) (openBits_pk h)
  refine ⟨(allBits (pk l)).drop l.length, ?_⟩
  have h3 := List.take_append_drop l.length (allBits (pk l))
  rw [← h2] at h3
  exact h3.symm

/-- May all numbers be? -/
def Fine (xs : List Nat) : Prop := ∀ x ∈ xs, x ≤ 4194304
instance (xs : List Nat) : Decidable (Fine xs) := by unfold Fine; exact inferInstance
/-- The contexts of so many numbers. -/
def cxs (m : Nat) : List Nat := (List.range m).map (· % 3)
theorem cxs_succ (m : Nat) : cxs (m + 1) = cxs m ++ [m % 3] := by simp [cxs, List.range_succ]
theorem cxs_three (n : Nat) : cxs (3 * (n + 1)) = cxs (3 * n) ++ [0, 1, 2] := by
  rw [show 3 * (n + 1) = 3 * n + 1 + 1 + 1 by omega, cxs_succ, cxs_succ, cxs_succ, List.append_assoc, List.append_assoc, show 3 * n % 3 = 0 by omega, show (3 * n + 1) % 3 = 1 by omega, show (3 * n + 1 + 1) % 3 = 2 by omega]
  rfl
theorem cxs_length (m : Nat) : (cxs m).length = m := by simp [cxs]
theorem cxs_lt {m : Nat} : ∀ c ∈ cxs m, c < 3 := fun c hc => by
  obtain ⟨a, -, rfl⟩ := List.mem_map.1 hc
  exact Nat.mod_lt _ (by decide)

def rowG (xs : List Nat) : List Bool := xs.flatMap longN
/-- What stands behind a number's first digit. -/
def restB (x : Nat) : List Bool := valBits x (Lib.bitLen x - 1)
def rowR (xs : List Nat) : List Bool := xs.flatMap restB
noncomputable def rcls (xs : List Nat) : List Nat := encN 24 (xs.map Lib.bitLen) (cxs xs.length)
def rplainB (xs : List Nat) : List Nat := 0 :: pk (rowG xs)
def clsB (xs : List Nat) (cls : List Nat) : List Nat := 1 :: pk (longN cls.length ++ allBits cls ++ rowR xs)
noncomputable def rclsB (xs : List Nat) : List Nat := clsB xs (rcls xs)
/-- A row's bytes. -/
noncomputable def resB (xs : List Nat) : List Nat := if (rclsB xs).length < (rplainB xs).length then rclsB xs else rplainB xs

theorem rowG_append (a b : List Nat) : rowG (a ++ b) = rowG a ++ rowG b := by simp [rowG]
theorem rowR_append (a b : List Nat) : rowR (a ++ b) = rowR a ++ rowR b := by simp [rowR]
theorem rowG_snoc (a : List Nat) (x : Nat) : rowG (a ++ [x]) = rowG a ++ longN x := by simp [rowG]
theorem rowR_snoc (a : List Nat) (x : Nat) : rowR (a ++ [x]) = rowR a ++ restB x := by simp [rowR]
theorem restB_length (x : Nat) : (restB x).length = Lib.bitLen x - 1 := valBits_length _ _
theorem p22 : (2 : Nat) ^ 22 = 4194304 := by decide +kernel
theorem p23 : (2 : Nat) ^ 23 = 8388608 := by decide +kernel
theorem bitLen_fine {x : Nat} (h : x ≤ 4194304) : Lib.bitLen x ≤ 23 := bitLen_le (by have := p23; omega) (by decide)
theorem half_fine {x : Nat} (h : x ≤ 4194304) : halfN x ≤ 22 := by
  have := bitLen_le (x := x + 1) (k := 23) (by have := p23; omega) (by decide)
  unfold halfN
  omega
theorem size_fine {x : Nat} (h : x ≤ 4194304) : sizeN x ≤ 45 := by
  have := half_fine h
  unfold sizeN
  omega
theorem rowG_le {xs : List Nat} (h : Fine xs) : (rowG xs).length ≤ 45 * xs.length := by
  induction xs with
  | nil => exact Nat.le_refl _
  | cons x xs ih =>
    have h1 := ih (fun y hy => h y (by simp [hy]))
    have h2 := size_fine (h x (by simp))
    show (longN x ++ rowG xs).length ≤ _
    rw [List.length_append, longN_length, List.length_cons]
    omega
theorem rowR_le {xs : List Nat} (h : Fine xs) : (rowR xs).length ≤ 22 * xs.length := by
  induction xs with
  | nil => exact Nat.le_refl _
  | cons x xs ih =>
    have h1 := ih (fun y hy => h y (by simp [hy]))
    have h2 := bitLen_fine (h x (by simp))
    show (restB x ++ rowR xs).length ≤ _
    rw [List.length_append, restB_length, List.length_cons]
    omega
theorem width_24 : widthN ((24 : Nat) : Int) = 5 := by decide +kernel
theorem rcls_le (xs : List Nat) : (rcls xs).length ≤ 1 + (xs.length * 5 + 7) / 8 := by
  have := enc_le 24 (xs.map Lib.bitLen) (cxs xs.length)
  rw [List.length_map, width_24] at this
  exact this
theorem rcls_lt (xs : List Nat) : ∀ d ∈ rcls xs, d < 256 := encN_lt _ _ _
theorem rcls_pos (xs : List Nat) : 1 ≤ (rcls xs).length := by
  rcases encN_cases 24 (xs.map Lib.bitLen) (cxs xs.length) with h | h <;> (unfold rcls; rw [h, List.length_cons]; omega)
/-- The low digits alone count. -/
theorem valBits_mod (x k : Nat) : valBits (x % 2 ^ k) k = valBits x k := by
  unfold valBits
  refine List.map_congr_left fun i hi => ?_
  have := List.mem_range.1 hi
  rw [Nat.testBit_mod_two_pow, decide_eq_true (show k - 1 - i < k by omega)]
  simp
theorem restB_sub {x : Nat} (h : x ≤ 4194304) (hk : 1 < Lib.bitLen x) : x - 2 ^ (Lib.bitLen x - 1) < 2 ^ (Lib.bitLen x - 1) ∧ 2 ^ (Lib.bitLen x - 1) ≤ x ∧ valBits (x - 2 ^ (Lib.bitLen x - 1)) (Lib.bitLen x - 1) = restB x := by
  have h2 := two64
  have h0 : x ≠ 0 := fun e => by subst e; exact absurd hk (by decide)
  have h3 := bitLen_low (x := x) (by omega) h0
  have h4 := bitLen_lt (x := x) (by omega)
  have h5 : x < 2 ^ (Lib.bitLen x - 1) + 2 ^ (Lib.bitLen x - 1) := by
    rw [show Lib.bitLen x = Lib.bitLen x - 1 + 1 by omega, Nat.pow_succ] at h4
    omega
  refine ⟨by omega, h3, ?_⟩
  have e : x - 2 ^ (Lib.bitLen x - 1) = x % 2 ^ (Lib.bitLen x - 1) := by
    rw [Nat.mod_eq_sub_mod h3, Nat.mod_eq_of_lt (by omega)]
  rw [e, valBits_mod]
  rfl
theorem bitLen_one {x : Nat} (h : x ≤ 4194304) (hk : Lib.bitLen x ≤ 1) : x = Lib.bitLen x := by
  have h2 := two64
  have h4 := bitLen_lt (x := x) (by omega)
  rcases (by omega : Lib.bitLen x = 0 ∨ Lib.bitLen x = 1) with e | e
  · rw [e] at h4 ⊢
    omega
  · rw [e] at h4 ⊢
    have : x ≠ 0 := fun e0 => by subst e0; exact absurd e (by decide)
    omega
theorem restB_short {x : Nat} (hk : Lib.bitLen x ≤ 1) : restB x = [] := by
  unfold restB
  rw [show Lib.bitLen x - 1 = 0 by omega]
  rfl

end Go.Proofs.Ytbhpcpcpccmacaa
