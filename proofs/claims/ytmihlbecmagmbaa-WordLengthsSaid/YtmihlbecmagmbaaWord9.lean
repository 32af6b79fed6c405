/- Reference 22: Takes, Missing, length. -/
import Derived.Test.YtmihlbecmagmbaaWord8
namespace Go.Proofs.Ytmihlbecmagmbaa
open Go.RowKit Go.Shelf

def takesI (c : UInt8) : Int := match kindOf c with
  | none => -1
  | some k => k.takes

set_option maxRecDepth 100000 in
set_option maxHeartbeats 1000000 in
theorem takes_calls {c : UInt8} {w : World} :
    Calls Try.prog 20 #[.int .u8 (c.toNat : Int)] w fun e w' => e = .returned (.int .i64 (takesI c)) ∧ w = w' := by
  have hk := kind_cases c
  have hc : takesI c = match kindOf c with | none => -1 | some k => (k.takes : Int) := rfl
  go_enter Try.func20, Try.ntmps20
  generalize takesI c = L at *
  generalize c.toNat = x at *
  rcases hk with ⟨hk, rfl⟩ | ⟨hk, rfl⟩ | ⟨hk, rfl⟩ | ⟨hk, rfl⟩ | ⟨hk, rfl⟩ | ⟨hk, h1, h2, h3, h4, h5⟩
  all_goals (rw [hk] at hc; subst hc)
  · go_wp2_with fail
    go_ret
    exact ⟨rfl, rfl⟩
  · go_wp2_with fail
    go_ret
    exact ⟨rfl, rfl⟩
  · go_wp2_with fail
    go_ret
    exact ⟨rfl, rfl⟩
  · go_wp2_with fail
    go_ret
    exact ⟨rfl, rfl⟩
  · go_wp2_with fail
    go_ret
    exact ⟨rfl, rfl⟩
  · have e1 := int_beq h1
    have e2 := int_beq h2
    have e3 := int_beq h3
    have e4 := int_beq h4
    have e5 := int_beq h5
    go_wp2_with fail
    go_ret
    exact ⟨rfl, rfl⟩

def missI (l : List UInt8) : Int := match miss 1 l with
  | none => -1
  | some m => m

/-- A letter of a string, for the walk. -/
theorem str_atV {l : List UInt8} {k : Nat} (h : k < l.length) (h2 : k < (str l).size) : (((str l)[k]).toNat : Int) = ((l[k]).toNat : Int) := by rw [str_at h]

set_option maxRecDepth 100000 in
set_option maxHeartbeats 1000000 in
theorem missing_calls {l : List UInt8} {w : World} (hlen : l.length ≤ 100000) :
    Calls Try.prog 44 #[.string (str l)] w fun e w' => e = .returned (.int .i64 (missI l)) ∧ w = w' := by
  have hss := str_size l
  go_enter Try.func44, Try.ntmps44
  go_wp2_with fail
  go_loopg [3, 4, 5] l.length (fun gk m i _ wr => wr = w ∧ ∃ t n : Nat, Hid (t ≤ l.length ∧ gk = l.length - t ∧ n ≤ t + 1) ∧ Hid (miss 1 l = miss n (l.drop t)) ∧ m = .int .i64 (n : Int) ∧ i = .int .i64 (t : Int))
  case atStart => exact ⟨rfl, 0, 1, Lib.hid ⟨by omega, rfl, by omega⟩, Lib.hid rfl, rfl, rfl⟩
  case round =>
    obtain ⟨rfl, t, n, hq, hm, rfl, rfl⟩ := hrel
    obtain ⟨q1, q2, q3⟩ := hq.out
    clear hq
    by_cases c : t < l.length
    · have hi : (t : Int) < ((str l).size : Int) := by rw [hss]; omega
      have h2 : t < (str l).size := by omega
      have hat := str_at c h2
      have hd : l.drop t = l[t] :: l.drop (t + 1) := (List.getElem_cons_drop c).symm
      have hm1 := hm.out
      rw [hd] at hm1
      clear hm hd
      generalize l[t] = x at *
      have hm2 : miss n (x :: l.drop (t + 1)) = match kindOf x with | none => none | some k => if n = 0 then none else miss (n - 1 + k.takes) (l.drop (t + 1)) := rfl
      rw [hm2] at hm1
      clear hm2
      have htk : takesI x = match kindOf x with | none => -1 | some k => (k.takes : Int) := rfl
      have htc := fun w => takes_calls (c := x) (w := w)
      have HTC := Lib.hid htc
      clear htc
      cases hk : kindOf x with
      | none =>
        rw [hk] at hm1 htk
        replace htk : takesI x = -1 := htk
        have HM : Hid (missI l = -1) := Lib.hid (by unfold missI; rw [hm1])
        clear hm1 hk
        generalize takesI x = y at *
        subst htk
        go_wp2_with fail
        refine (HTC.out _).mono ?_
        rintro e w2 ⟨rfl, rfl⟩
        by_cases hn : n = 0
        · subst hn
          go_wp2_with fail
          go_ret
          exact ⟨by rw [HM.out]; rfl, rfl⟩
        · have e1 : ((n : Int) == 0) = false := by simp [hn]
          go_wp2_with fail
          go_ret
          exact ⟨by rw [HM.out]; rfl, rfl⟩
      | some k =>
        rw [hk] at hm1 htk
        replace htk : takesI x = (k.takes : Int) := htk
        have hkt : k.takes ≤ 2 := by cases k <;> decide
        generalize takesI x = y at *
        clear hk
        by_cases hn : n = 0
        · subst hn
          have HM : Hid (missI l = -1) := Lib.hid (by unfold missI; rw [hm1]; rfl)
          clear hm1
          subst htk
          go_wp2_with fail
          refine (HTC.out _).mono ?_
          rintro e w2 ⟨rfl, rfl⟩
          go_wp2_with fail
          go_ret
          exact ⟨by rw [HM.out]; rfl, rfl⟩
        · have hm3 : miss 1 l = miss (n - 1 + k.takes) (l.drop (t + 1)) := by rw [hm1]; simp only; rw [if_neg hn]
          have HM := Lib.hid hm3
          have e1 : ((n : Int) == 0) = false := by simp [hn]
          clear hm1 hm3
          generalize k.takes = z at *
          subst htk
          have e2 : decide ((z : Int) < 0) = false := decide_eq_false (by omega)
          go_wp2_with fail
          refine (HTC.out _).mono ?_
          rintro e w2 ⟨rfl, rfl⟩
          go_wp2_with fail
          go_roundg (l.length - (t + 1))
          case rel => exact ⟨rfl, t + 1, n - 1 + z, Lib.hid ⟨by omega, rfl, by omega⟩, HM, by go_num, by go_num⟩
          case measure => omega
    · have hi : ¬ (t : Int) < ((str l).size : Int) := by rw [hss]; omega
      have hm1 := hm.out
      rw [List.drop_eq_nil_of_le (by omega)] at hm1
      have HM : Hid (missI l = (n : Int)) := Lib.hid (by unfold missI; rw [hm1]; rfl)
      clear hm hm1
      go_wp2_with fail
      go_ret
      exact ⟨by rw [HM.out]; rfl, rfl⟩

/-- The length of the word that begins at a place, and the place behind it. -/
theorem length_calls {l : List UInt8} (hlen : l.length ≤ 1000) : ∀ (d at' : Nat) (n : Int) (t : List Int) (w : World), l.length - at' ≤ d → st (l.drop at') [] = some (n :: t) →
    Calls Try.prog 45 #[.string (str l), .int .i64 (at' : Int)] w fun e w' => (∃ next : Nat, at' < next ∧ next ≤ l.length ∧ st (l.drop next) [] = some t ∧ e = .returned (.tuple #[.int .i64 n, .int .i64 (next : Int)])) ∧ w = w'
  | 0, at', n, t, w, hd, hs => by
    rw [List.drop_eq_nil_of_le (by omega)] at hs
    simp [st] at hs
  | d + 1, at', n, t, w, hd, hs => by
    have hlt : at' < l.length := by
      rcases Nat.lt_or_ge at' l.length with h | h
      · exact h
      · rw [List.drop_eq_nil_of_le h] at hs; simp [st] at hs
    have ih := fun a n t w (h : at' < a) hs => length_calls hlen d a n t w (by omega) hs
    have hss := str_size l
    have hi : (at' : Int) < ((str l).size : Int) := by rw [hss]; omega
    have h2 : at' < (str l).size := by omega
    have hat := str_at hlt h2
    have hdr : l.drop at' = l[at'] :: l.drop (at' + 1) := (List.getElem_cons_drop hlt).symm
    rw [hdr] at hs
    have hsum := st_sum hs
    obtain ⟨k, s, e1, e2, e3⟩ := st_cons.1 hs
    have hsum2 := st_sum e2
    have hk := kind_cases l[at']
    have hdl : (l.drop (at' + 1)).length ≤ 1000 := by rw [List.length_drop]; omega
    simp only [List.length_cons, List.map_cons, sumS, sh] at hsum
    clear hdr hs
    have IH := Lib.hid ih
    clear ih
    rw [e1] at hk
    generalize l[at'] = c at *
    clear e1
    have E2 := Lib.hid e2
    go_enter Try.func45, Try.ntmps45
    cases k with
    | E =>
      have hcn : c.toNat = 69 := by simpa using hk
      simp only [stepI, Option.some.injEq, List.cons.injEq] at e3
      obtain ⟨rfl, rfl⟩ := e3
      clear hk e2
      go_wp2_with fail
      go_ret2
      exact ⟨⟨at' + 1, by omega, by omega, E2.out, by simp⟩, rfl⟩
    | C =>
      have hcn : c.toNat = 67 := by simpa using hk
      rcases s with _ | ⟨y, s⟩ <;> simp only [stepI, Option.some.injEq, List.cons.injEq, reduceCtorEq] at e3
      obtain ⟨rfl, rfl⟩ := e3
      simp only [List.map_cons, sumS, sh] at hsum2
      have hc1 := fun w => IH.out (at' + 1) y s w (by omega) E2.out
      have HC1 := Lib.hid hc1
      clear hc1 hk e2
      have hcast : ((at' + 1 : Nat) : Int) = (at' : Int) + 1 := by omega
      rw [hcast] at HC1
      clear hcast
      go_wp2_with fail
      refine (HC1.out _).mono ?_
      rintro e w2 ⟨⟨next, f1, f2, f3, rfl⟩, rfl⟩
      have F3 := Lib.hid f3
      clear f3
      go_wp2_with fail
      go_ret2
      exact ⟨⟨next, by omega, f2, F3.out, rfl⟩, rfl⟩
    | R =>
      have hcn : c.toNat = 82 := by simpa using hk
      rcases s with _ | ⟨y, s⟩ <;> simp only [stepI, Option.some.injEq, List.cons.injEq, reduceCtorEq] at e3
      obtain ⟨rfl, rfl⟩ := e3
      simp only [List.map_cons, sumS, sh] at hsum2
      have hc1 := fun w => IH.out (at' + 1) y s w (by omega) E2.out
      have HC1 := Lib.hid hc1
      clear hc1 hk e2
      have hcast : ((at' + 1 : Nat) : Int) = (at' : Int) + 1 := by omega
      rw [hcast] at HC1
      clear hcast
      go_wp2_with fail
      refine (HC1.out _).mono ?_
      rintro e w2 ⟨⟨next, f1, f2, f3, rfl⟩, rfl⟩
      have F3 := Lib.hid f3
      clear f3
      go_wp2_with fail
      go_ret2
      exact ⟨⟨next, by omega, f2, F3.out, rfl⟩, rfl⟩
    | L =>
      have hcn : c.toNat = 76 := by simpa using hk
      rcases s with _ | ⟨y, s⟩ <;> simp only [stepI, Option.some.injEq, List.cons.injEq, reduceCtorEq] at e3
      obtain ⟨rfl, rfl⟩ := e3
      simp only [List.map_cons, sumS, sh] at hsum2
      have hc1 := fun w => IH.out (at' + 1) y s w (by omega) E2.out
      have HC1 := Lib.hid hc1
      clear hc1 hk e2
      have hcast : ((at' + 1 : Nat) : Int) = (at' : Int) + 1 := by omega
      rw [hcast] at HC1
      clear hcast
      go_wp2_with fail
      refine (HC1.out _).mono ?_
      rintro e w2 ⟨⟨next, f1, f2, f3, rfl⟩, rfl⟩
      have F3 := Lib.hid f3
      clear f3
      go_wp2_with fail
      go_ret2
      exact ⟨⟨next, by omega, f2, F3.out, rfl⟩, rfl⟩
    | S =>
      have hcn : c.toNat = 83 := by simpa using hk
      rcases s with _ | ⟨y, _ | ⟨z, s⟩⟩ <;> simp only [stepI, Option.some.injEq, List.cons.injEq, reduceCtorEq] at e3
      obtain ⟨rfl, rfl⟩ := e3
      simp only [List.map_cons, sumS, sh] at hsum2
      have hc1 := fun w => IH.out (at' + 1) y (z :: s) w (by omega) E2.out
      have HC1 := Lib.hid hc1
      clear hc1 hk e2
      have hcast : ((at' + 1 : Nat) : Int) = (at' : Int) + 1 := by omega
      rw [hcast] at HC1
      clear hcast
      go_wp2_with fail
      refine (HC1.out _).mono ?_
      rintro e w2 ⟨⟨next, f1, f2, f3, rfl⟩, rfl⟩
      have hc2 := fun w => IH.out next z s w (by omega) f3
      have HC2 := Lib.hid hc2
      clear hc2 f3
      go_wp2_with fail
      refine (HC2.out _).mono ?_
      rintro e w3 ⟨⟨next2, f4, f5, f6, rfl⟩, rfl⟩
      have F6 := Lib.hid f6
      clear f6
      go_wp2_with fail
      go_ret2
      exact ⟨⟨next2, by omega, f5, F6.out, rfl⟩, rfl⟩

end Go.Proofs.Ytmihlbecmagmbaa
