/- Law 22: WordTurned. -/
import Derived.Test.YtmihlbecmagmbaaLaw22a
namespace Go.Proofs.Ytmihlbecmagmbaa
open Go.RowKit Go.Shelf

def turn (c : UInt8) : UInt8 := if c.toNat = 76 then 82 else if c.toNat = 82 then 76 else c
def Lt.turn : Lt → Lt
  | .L => .R
  | .R => .L
  | k => k
theorem kind_turn (c : UInt8) : kindOf (turn c) = (kindOf c).map Lt.turn := by
  unfold turn
  rcases kind_cases c with ⟨h, e⟩ | ⟨h, e⟩ | ⟨h, e⟩ | ⟨h, e⟩ | ⟨h, e⟩ | ⟨h, h1, h2, h3, h4, h5⟩
  · rw [e, h]; simp; rw [h]; rfl
  · rw [e, h]; simp; rw [h]; rfl
  · rw [e, h]; simp; rfl
  · rw [e, h]; simp; rfl
  · rw [e, h]; simp; rw [h]; rfl
  · rw [if_neg h4, if_neg h3, h]; rfl
theorem step_turn (k : Lt) (s : List Int) : stepI k.turn s = stepI k s := by
  cases k <;> rcases s with _ | ⟨x, _ | ⟨y, s⟩⟩ <;> rfl
theorem wordS_turn (k : Lt) (s : List (Int × Bool)) : wordS k.turn s = wordS k s := by cases k <;> rfl
theorem st_turn : ∀ (l : List UInt8) (i : List Int), st (l.map turn) i = st l i
  | [], _ => rfl
  | c :: l, i => by
    simp only [List.map_cons, st, st_turn l i, kind_turn]
    cases kindOf c with
    | none => rfl
    | some k => simp only [Option.map_some, Option.bind_some]; congr 1; funext s; exact step_turn k s
theorem good_turn : ∀ (l : List UInt8) (i : List Int), goodB (l.map turn) i = goodB l i
  | [], _ => rfl
  | c :: l, i => by
    have := st_turn (c :: l) i
    simp only [List.map_cons] at this ⊢
    simp only [goodB, good_turn l i, this]
theorem right_turn (l : List UInt8) : rightB (l.map turn) = rightB l := by
  unfold rightB
  rw [st_turn, good_turn]
theorem stk_turn : ∀ l : List UInt8, stk (l.map turn) = stk l
  | [] => rfl
  | c :: l => by
    simp only [List.map_cons, stk, stk_turn l, kind_turn]
    cases kindOf c with
    | none => rfl
    | some k => simp only [Option.map_some, Option.bind_some, wordS_turn]
theorem beg_turn (l : List UInt8) : begB (l.map turn) = begB l := by
  unfold begB
  rw [stk_turn]
  cases stk l with
  | none => rfl
  | some s => simp
theorem least_turn (l : List UInt8) : leastI (l.map turn) = leastI l := by
  unfold leastI
  rw [right_turn]
  congr 2
  obtain ⟨h1, h2, h3⟩ := leastK_spec l
  refine leastK_of (by rw [List.length_map]; exact h1) (fun i hi => ?_) (fun hi => ?_)
  · rw [← List.map_take, beg_turn]; exact h2 i hi
  · rw [← List.map_take, beg_turn]; exact h3 (by rwa [List.length_map] at hi)
theorem codeL_turn (c : UInt8) : (codeL (turn c)).length = (codeL c).length := by
  unfold codeL
  rw [kind_turn]
  cases kindOf c with
  | none => rfl
  | some k => cases k <;> rfl
theorem cost_turn (l : List UInt8) : costI (l.map turn) = costI l := by
  have h1 : letters (l.map turn) = letters l := by
    unfold letters
    rw [List.all_map]
    congr 1
    funext c
    simp only [Function.comp, kind_turn]
    cases kindOf c <;> rfl
  have h2 : ∀ l : List UInt8, (wbits (l.map turn)).length = (wbits l).length := by
    intro l
    induction l with
    | nil => rfl
    | cons c l ih =>
      simp only [wbits, List.map_cons, List.flatMap_cons, List.length_append, codeL_turn] at ih ⊢
      rw [ih]
  unfold costI
  rw [h1, h2]

set_option maxRecDepth 100000 in
set_option maxHeartbeats 4000000 in
theorem law_WordTurned (b : ByteArray) (_hb : b.size ≤ maxLen) {w : World} :
    Calls Try.prog 5 #[.string b] w fun e w' => e = .returned (.bool true) ∧ Below w.heap.size w w' := by
  clear _hb
  have hb := str_data b
  generalize b.data.toList = l at hb
  subst hb
  have hss := str_size l
  have H := Sep.start w
  generalize hB : HP.old w.heap.size w = O at H
  have HB := Lib.hid hB; clear hB
  by_cases hfew : 40 < l.length
  · have hi : 40 < ((str l).size : Int) := by rw [hss]; omega
    go_enter Try.func5, Try.ntmps5
    go_wp2_with fail
    refine (awake22 H).mono ?_
    rintro e w1 ⟨rfl, H1⟩
    go_wp2_with fail
    go_ret
    subst HB
    exact ⟨rfl, H1.below⟩
  · have hi : ¬ 40 < ((str l).size : Int) := by rw [hss]; omega
    have hml : (l.map turn).length ≤ 1000 := by rw [List.length_map]; omega
    have h0 := fun (w1 : World) (R1 : List HP) (h : Sep w1 R1) => right_calls (l := l.map turn) hml h
    have h1 := fun (w1 : World) (R1 : List HP) (h : Sep w1 R1) => right_calls (l := l) (by omega) h
    have h2 := fun (w1 : World) (R1 : List HP) (h : Sep w1 R1) => least_calls (l := l.map turn) hml h
    have h3 := fun (w1 : World) (R1 : List HP) (h : Sep w1 R1) => least_calls (l := l) (by omega) h
    have h4 := fun (w1 : World) (R1 : List HP) (h : Sep w1 R1) => wcost_calls (l := l.map turn) (by omega) h
    have h5 := fun (w1 : World) (R1 : List HP) (h : Sep w1 R1) => wcost_calls (l := l) (by omega) h
    rw [right_turn] at h0
    rw [least_turn] at h2
    rw [cost_turn] at h4
    have G0 := Lib.hid h0
    have G1 := Lib.hid h1
    have G2 := Lib.hid h2
    have G3 := Lib.hid h3
    have G4 := Lib.hid h4
    have G5 := Lib.hid h5
    clear h0 h1 h2 h3 h4 h5 hml
    go_enter Try.func5, Try.ntmps5
    go_wp2_with fail
    refine (awake22 H).mono ?_
    rintro e w1 ⟨rfl, H1⟩
    clear H
    go_wp2_with fail
    go_loopg [3, 4, 12] l.length (fun gk v _ i wr => wr = w1 ∧ ∃ t : Nat, Hid (t ≤ l.length ∧ gk = l.length - t) ∧ v = .string (str ((l.take t).map turn)) ∧ i = .int .i64 (t : Int))
    case atStart => exact ⟨rfl, 0, Lib.hid ⟨by omega, rfl⟩, rfl, rfl⟩
    case round =>
      obtain ⟨rfl, t, hq, rfl, rfl⟩ := hrel
      obtain ⟨q1, q2⟩ := hq.out
      clear hq
      by_cases c : t < l.length
      · have hi2 : (t : Int) < ((str l).size : Int) := by rw [hss]; omega
        have h2 : t < (str l).size := by omega
        have hat := str_at c h2
        have hta : (l.take (t + 1)).map turn = (l.take t).map turn ++ [turn l[t]] := by
          rw [List.take_succ_eq_append_getElem c, List.map_append]; rfl
        have hz1 := str_size ((l.take t).map turn)
        rw [List.length_map, List.length_take, Nat.min_eq_left (by omega)] at hz1
        have hex : (str l).extract t (t + 1) = str [l[t]] := by
          rw [str_extract, List.take_succ_eq_append_getElem c, List.drop_append_of_le_length (by rw [List.length_take]; omega), List.drop_of_length_le (by rw [List.length_take]; omega)]; rfl
        have hz2 := str_size [l[t]]
        have hcat : ∀ x, str ((l.take t).map turn) ++ str [x] = str ((l.take t).map turn ++ [x]) := fun x => str_append _ _
        have HT := Lib.hid hta
        have HC := Lib.hid hcat
        clear hta hcat
        generalize (l.take t).map turn = A at *
        generalize l[t] = x at *
        have htn : turn x = if x.toNat = 76 then 82 else if x.toNat = 82 then 76 else x := rfl
        by_cases hL : x.toNat = 76
        · rw [if_pos hL] at htn
          rw [htn] at HT
          clear htn
          go_wp2_with fail
          go_roundg (l.length - (t + 1))
          case rel => exact ⟨rfl, t + 1, Lib.hid ⟨by omega, rfl⟩, by rw [HT.out, ← HC.out]; rfl, by go_num⟩
          case measure => omega
        · by_cases hR : x.toNat = 82
          · rw [if_neg hL, if_pos hR] at htn
            rw [htn] at HT
            clear htn
            go_wp2_with fail
            go_roundg (l.length - (t + 1))
            case rel => exact ⟨rfl, t + 1, Lib.hid ⟨by omega, rfl⟩, by rw [HT.out, ← HC.out]; rfl, by go_num⟩
            case measure => omega
          · rw [if_neg hL, if_neg hR] at htn
            rw [htn] at HT
            clear htn
            have e1 := int_beq hL
            have e2 := int_beq hR
            go_wp2_with fail
            go_roundg (l.length - (t + 1))
            case rel => exact ⟨rfl, t + 1, Lib.hid ⟨by omega, rfl⟩, by rw [HT.out, ← HC.out], by go_num⟩
            case measure => omega
      · obtain rfl : t = l.length := by omega
        have hi2 : ¬ (l.length : Int) < ((str l).size : Int) := by rw [hss]; omega
        rw [List.take_length]
        go_wp2_with fail
        refine (G0.out _ _ H1).mono ?_
        rintro e w2 ⟨rfl, H2⟩
        go_wp2_with fail
        refine (G1.out _ _ H2).mono ?_
        rintro e w3 ⟨rfl, H3⟩
        go_wp2_with fail
        refine (G2.out _ _ H3).mono ?_
        rintro e w4 ⟨rfl, H4⟩
        go_wp2_with fail
        refine (G3.out _ _ H4).mono ?_
        rintro e w5 ⟨rfl, H5⟩
        go_wp2_with fail
        refine (G4.out _ _ H5).mono ?_
        rintro e w6 ⟨rfl, H6⟩
        go_wp2_with fail
        refine (G5.out _ _ H6).mono ?_
        rintro e w7 ⟨rfl, H7⟩
        go_wp2_with fail
        go_ret
        subst HB
        exact ⟨rfl, H7.below⟩

end Go.Proofs.Ytmihlbecmagmbaa
