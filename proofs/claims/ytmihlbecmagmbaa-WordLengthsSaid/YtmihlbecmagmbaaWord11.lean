/- Reference 22: Begins, Least. -/
import Derived.Test.YtmihlbecmagmbaaWord10
namespace Go.Proofs.Ytmihlbecmagmbaa
open Go.RowKit Go.Shelf

theorem miss_le : ∀ (l : List UInt8) (m n : Nat), miss m l = some n → n ≤ m + l.length
  | [], m, n, h => by simp [miss] at h; omega
  | c :: l, m, n, h => by
    simp only [miss] at h
    cases hk : kindOf c with
    | none => rw [hk] at h; simp at h
    | some k =>
      rw [hk] at h
      simp only at h
      split at h
      · cases h
      · have := miss_le l _ n h
        have : k.takes ≤ 2 := by cases k <;> decide
        simp only [List.length_cons]; omega
/-- Is there one among the first? -/
theorem any_range_succ (p : Nat → Bool) (k : Nat) : (List.range (k + 1)).any p = ((List.range k).any p || p k) := by
  rw [List.range_succ]; simp

set_option maxRecDepth 100000 in
set_option maxHeartbeats 1000000 in
theorem rbegins_calls {l : List UInt8} {R : List HP} {w : World} (hlen : l.length ≤ 300) (H : Sep w R) :
    Calls Try.prog 38 #[.string (str l)] w fun e w' => e = .returned (.bool (begB l)) ∧ Sep w' R := by
  have hmc := fun w => missing_calls (l := l) (w := w) (by omega)
  have hmi : missI l = match miss 1 l with | none => -1 | some m => (m : Int) := rfl
  have hbr : begR l = match miss 1 l with | none => false | some m => if m = 0 then rightB l else (List.range (l.length + 2)).any fun k => rightB (l ++ rest k m) := rfl
  rw [← begR_eq]
  have hss := str_size l
  cases hm : miss 1 l with
  | none =>
    rw [hm] at hmi hbr
    replace hmi : missI l = -1 := hmi
    replace hbr : begR l = false := hbr
    rw [hmi] at hmc
    rw [hbr]
    have HMC := Lib.hid hmc
    clear hmc hmi hbr hm
    go_enter Try.func38, Try.ntmps38
    go_wp2_with fail
    refine (HMC.out _).mono ?_
    rintro e w2 ⟨rfl, rfl⟩
    go_wp2_with fail
    go_ret
    exact ⟨rfl, H⟩
  | some m =>
    have hml := miss_le l 1 m hm
    rw [hm] at hmi hbr
    replace hmi : missI l = (m : Int) := hmi
    replace hbr : begR l = if m = 0 then rightB l else (List.range (l.length + 2)).any fun k => rightB (l ++ rest k m) := hbr
    rw [hmi] at hmc
    have HMC := Lib.hid hmc
    clear hmc hmi hm
    by_cases h0 : m = 0
    · subst h0
      rw [if_pos rfl] at hbr
      rw [hbr]
      clear hbr
      have hr := fun w (h : Sep w R) => rright_calls (l := l) (by omega) h
      have HR := Lib.hid hr
      clear hr
      go_enter Try.func38, Try.ntmps38
      go_wp2_with fail
      refine (HMC.out _).mono ?_
      rintro e w2 ⟨rfl, rfl⟩
      go_wp2_with fail
      refine (HR.out _ H).mono ?_
      rintro e w2 ⟨rfl, H2⟩
      go_wp2_with fail
      go_ret
      exact ⟨rfl, H2⟩
    · rw [if_neg h0] at hbr
      rw [hbr]
      clear hbr
      have hr := fun k w (hk : k ≤ l.length + 1) (h : Sep w R) => rright_calls (l := l ++ rest k m) (by simp [rest]; omega) h
      have HR := Lib.hid hr
      clear hr
      generalize hp : (fun k => rightB (l ++ rest k m)) = p
      have HP : Hid (∀ k, rightB (l ++ rest k m) = p k) := Lib.hid fun k => by rw [← hp]
      clear hp
      have e1 : ((m : Int) == 0) = false := by simp [h0]
      have e2 : decide ((m : Int) < 0) = false := decide_eq_false (by omega)
      generalize hz : (List.range (l.length + 2)).any p = Z
      have HZ := Lib.hid hz
      clear hz
      go_enter Try.func38, Try.ntmps38
      go_wp2_with fail
      refine (HMC.out _).mono ?_
      rintro e w2 ⟨rfl, rfl⟩
      go_wp2_with fail
      go_loopg [4] (l.length + 2) (fun gk i wr => ∃ t : Nat, Hid (t ≤ l.length + 2 ∧ gk = l.length + 2 - t) ∧ Hid ((List.range t).any p = false) ∧ i = .int .i64 (t : Int) ∧ Sep wr R)
      case atStart => exact ⟨0, Lib.hid ⟨by omega, rfl⟩, Lib.hid rfl, rfl, H⟩
      case round =>
        clear H
        obtain ⟨t, hq, hany, rfl, Hr⟩ := hrel
        obtain ⟨q1, q2⟩ := hq.out
        clear hq
        by_cases c : t ≤ l.length + 1
        · have hi : (t : Int) ≤ ((str l).size : Int) + 1 := by rw [hss]; omega
          have ht1 := fun w => times_calls (c := 76) (n := t) (w := w) (by omega)
          have ht2 := fun w => times_calls (c := 69) (n := m) (w := w) (by omega)
          have hrr := HR.out t wr c Hr
          have hz1 := str_size (List.replicate t 76)
          have hz2 := str_size (List.replicate m 69)
          have hz3 : (str l ++ str (List.replicate t 76)).size = l.length + t := by rw [str_append, str_size]; simp
          rw [List.length_replicate] at hz1 hz2
          have hcat : (str l ++ str (List.replicate t 76)) ++ str (List.replicate m 69) = str (l ++ rest t m) := by
            rw [str_append, str_append, List.append_assoc]; rfl
          have HT1 := Lib.hid ht1
          have HT2 := Lib.hid ht2
          have HRR := Lib.hid hrr
          have hpt := HP.out t
          rw [hpt] at HRR
          have HAN : Hid ((List.range (t + 1)).any p = p t) := Lib.hid (by rw [any_range_succ, hany.out]; rfl)
          have HEX : Hid (p t = true → Z = true) := Lib.hid fun h => by
            rw [← HZ.out, List.any_eq_true]; exact ⟨t, List.mem_range.2 (by omega), h⟩
          clear ht1 ht2 hrr hpt
          go_wp2_with fail
          refine (HT1.out _).mono ?_
          rintro e w2 ⟨rfl, rfl⟩
          go_wp2_with fail
          refine (HT2.out _).mono ?_
          rintro e w2 ⟨rfl, rfl⟩
          go_wp2_with fail
          refine HRR.out.mono ?_
          rintro e w2 ⟨rfl, H2⟩
          cases hpt : p t with
          | true =>
            have HE := Lib.hid (HEX.out hpt)
            clear hpt
            go_wp2_with fail
            go_ret
            exact ⟨by rw [HE.out]; rfl, H2⟩
          | false =>
            rw [hpt] at HAN
            clear hpt
            go_wp2_with fail
            go_roundg (l.length + 2 - (t + 1))
            case rel => exact ⟨t + 1, Lib.hid ⟨by omega, rfl⟩, HAN, by go_num, H2⟩
            case measure => omega
        · obtain rfl : t = l.length + 2 := by omega
          have hi : ¬ ((l.length + 2 : Nat) : Int) ≤ ((str l).size : Int) + 1 := by rw [hss]; omega
          go_wp2_with fail
          go_ret
          exact ⟨by rw [← HZ.out, hany.out]; rfl, Hr⟩

set_option maxRecDepth 100000 in
set_option maxHeartbeats 1000000 in
theorem rleast_calls {l : List UInt8} {R : List HP} {w : World} (hlen : l.length ≤ 300) (H : Sep w R) :
    Calls Try.prog 15 #[.string (str l)] w fun e w' => e = .returned (.int .i64 (leastI l)) ∧ Sep w' R := by
  have hr := rright_calls (l := l) (by omega) H
  have hss := str_size l
  have hle : leastI l = if rightB l then -1 else (leastK l : Int) := rfl
  cases hp : rightB l with
  | true =>
    rw [hp] at hr hle
    replace hle : leastI l = -1 := hle
    rw [hle]
    clear hle hp
    go_enter Try.func15, Try.ntmps15
    go_wp2_with fail
    refine hr.mono ?_
    rintro e w2 ⟨rfl, H2⟩
    go_wp2_with fail
    go_ret
    exact ⟨rfl, H2⟩
  | false =>
    rw [hp] at hr hle
    replace hle : leastI l = (leastK l : Int) := hle
    rw [hle]
    clear hle hp
    go_enter Try.func15, Try.ntmps15
    go_wp2_with fail
    refine hr.mono ?_
    rintro e w2 ⟨rfl, H2⟩
    go_wp2_with fail
    go_loopg [3] l.length (fun gk i wr => ∃ t : Nat, Hid (t ≤ l.length ∧ gk = l.length - t) ∧ Hid (∀ j, j < t → begB (l.take (j + 1)) = true) ∧ i = .int .i64 (t : Int) ∧ Sep wr R)
    case atStart => exact ⟨0, Lib.hid ⟨by omega, rfl⟩, Lib.hid (fun j hj => absurd hj (by omega)), rfl, H2⟩
    case round =>
      clear H2 H hr
      obtain ⟨t, hq, hall, rfl, Hr⟩ := hrel
      obtain ⟨q1, q2⟩ := hq.out
      clear hq
      by_cases c : t < l.length
      · have hi : (t : Int) < ((str l).size : Int) := by rw [hss]; omega
        have he : (str l).extract 0 (t + 1) = str (l.take (t + 1)) := by rw [str_extract, List.drop_zero]
        have hb := rbegins_calls (l := l.take (t + 1)) (by rw [List.length_take]; omega) Hr
        cases hpt : begB (l.take (t + 1)) with
        | true =>
          have HN : Hid (∀ j, j < t + 1 → begB (l.take (j + 1)) = true) := Lib.hid fun j hj => by
            rcases Nat.lt_or_ge j t with h | h
            · exact hall.out j h
            · obtain rfl : j = t := by omega
              exact hpt
          rw [hpt] at hb
          clear hpt
          generalize l.take (t + 1) = u at *
          go_wp2_with fail
          refine hb.mono ?_
          rintro e w3 ⟨rfl, H3⟩
          go_wp2_with fail
          go_roundg (l.length - (t + 1))
          case rel => exact ⟨t + 1, Lib.hid ⟨by omega, rfl⟩, HN, by go_num, H3⟩
          case measure => omega
        | false =>
          have HK : Hid (leastK l = t) := Lib.hid (leastK_of q1 hall.out fun _ => hpt)
          rw [hpt] at hb
          clear hpt
          generalize l.take (t + 1) = u at *
          go_wp2_with fail
          refine hb.mono ?_
          rintro e w3 ⟨rfl, H3⟩
          go_wp2_with fail
          go_ret
          exact ⟨by rw [HK.out]; rfl, H3⟩
      · obtain rfl : t = l.length := by omega
        have hi : ¬ (l.length : Int) < ((str l).size : Int) := by rw [hss]; omega
        have HK : Hid (leastK l = l.length) := Lib.hid (leastK_of (Nat.le_refl _) hall.out fun h => absurd h (Nat.lt_irrefl _))
        go_wp2_with fail
        go_ret
        exact ⟨by rw [HK.out]; rfl, Hr⟩

end Go.Proofs.Ytmihlbecmagmbaa
