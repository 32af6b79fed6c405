/- order: After. -/
import Derived.Test.YticeolbagfaofaaOrd3
namespace Go.Proofs.Yticeolbagfaofaa
open Go.RowKit

/-- What After gives. -/
def AftPost (xs ys : List Int) (R : List HP) (r : Value) (w' : World) : Prop :=
  ((rightB xs = false ∨ rightB ys = false ∨ xs.length ≠ ys.length) ∧ r = .tuple #[.slice none 0 0, .int .i64 1] ∧ Sep w' R) ∨
  ((rightB xs = true ∧ rightB ys = true ∧ xs.length = ys.length) ∧ ∃ v, r = .tuple #[v, .int .i64 0] ∧ Sep w' (HP.row 3 1 v xs.length ((afterL xs ys).map iv) :: R))

set_option maxRecDepth 100000 in
set_option maxHeartbeats 1000000 in
theorem after_calls {v u : Value} {xs ys : List Int} {R : List HP} {w : World} (hlen : xs.length ≤ 100000) (hlen2 : ys.length ≤ 100000) (hrd : Reads R v xs.length 1 (xs.map iv)) (hrd2 : Reads R u ys.length 1 (ys.map iv)) (H : Sep w R) :
    Calls Try.prog 25 #[v, u] w (Gives (AftPost xs ys R)) := by
  have hc := oright_calls hlen hrd H
  have hc2 := fun w1 h => oright_calls (w := w1) hlen2 hrd2 h
  obtain ⟨a, cap, rfl⟩ := (hrd w H).form
  obtain ⟨a2, cap2, rfl⟩ := (hrd2 w H).form
  have HRD := Lib.hid hrd
  have HRD2 := Lib.hid hrd2
  clear hrd hrd2
  cases hr : rightB xs with
  | false =>
    rw [hr] at hc
    have HR := Lib.hid hr
    clear hr hc2
    go_enter Try.func25, Try.ntmps25
    go_wp2_with fail
    refine hc.mono ?_
    rintro e w1 ⟨rfl, H1⟩
    go_wp2_with fail
    go_ret2
    exact ⟨_, rfl, .inl ⟨.inl HR.out, rfl, H1⟩⟩
  | true =>
    rw [hr] at hc
    have HR := Lib.hid hr
    have HP1 := Lib.hid (rightB_iff.1 hr)
    clear hr
    cases hr2 : rightB ys with
    | false =>
      rw [hr2] at hc2
      have HC2 := Lib.hid hc2
      have HR2 := Lib.hid hr2
      clear hr2 hc2
      go_enter Try.func25, Try.ntmps25
      go_wp2_with fail
      refine hc.mono ?_
      rintro e w1 ⟨rfl, H1⟩
      go_wp2_with fail
      refine (HC2.out _ H1).mono ?_
      rintro e w2 ⟨rfl, H2⟩
      go_wp2_with fail
      go_ret2
      exact ⟨_, rfl, .inl ⟨.inr (.inl HR2.out), rfl, H2⟩⟩
    | true =>
      rw [hr2] at hc2
      have HC2 := Lib.hid hc2
      have HR2 := Lib.hid hr2
      clear hr2 hc2
      by_cases hl : xs.length = ys.length
      · have hlI : ((xs.length : Int) != (ys.length : Int)) = false := by rw [bne_eq_false_iff_eq]; omega
        have HLE := Lib.hid hl
        clear hl
        go_enter Try.func25, Try.ntmps25
        go_wp2_with fail
        refine hc.mono ?_
        rintro e w1 ⟨rfl, H1⟩
        go_wp2_with fail
        refine (HC2.out _ H1).mono ?_
        rintro e w2 ⟨rfl, H2⟩
        clear H1 H hc
        go_wp2_with fail
        go_loopg [6, 8, 26] xs.length (fun gk o _ i wr => ∃ t : Nat, Hid (t ≤ xs.length ∧ gk = xs.length - t) ∧ i = .int .i64 (t : Int) ∧ Sep wr (HP.row 3 1 o t (((afterL xs ys).take t).map iv) :: R))
        case atStart => exact ⟨0, Lib.hid ⟨by omega, rfl⟩, rfl, H2.row_nil _ _⟩
        case round =>
          clear H2
          obtain ⟨t, hq, rfl, Hr⟩ := hrel
          obtain ⟨q1, q2⟩ := hq.out
          clear hq
          obtain ⟨oa, oc, rfl⟩ := Hr.row_form
          by_cases c : t < xs.length
          · have hrw := HRD.out _ Hr.tail
            obtain ⟨g2, o, d, he⟩ := hrw.open (by omega)
            simp only [Value.slice.injEq, true_and] at he
            obtain ⟨rfl, rfl⟩ := he
            have hc : wr.cell? ⟨g2, o + t, none⟩ = some (.int .i64 xs[t]) := hrw.cell t (iv_get c)
            have hx := HP1.out.1 _ (List.getElem_mem c)
            have hg := after_get (q := ys) c
            clear hrw
            generalize xs[t] = x at hc hx hg
            obtain ⟨j, rfl⟩ := Int.eq_ofNat_of_zero_le hx.1
            have hj : j < ys.length := by have := HLE.out; omega
            have hrw2 := HRD2.out _ Hr.tail
            obtain ⟨g3, o3, d3, he⟩ := hrw2.open (by omega)
            simp only [Value.slice.injEq, true_and] at he
            obtain ⟨rfl, rfl⟩ := he
            have hc2 : wr.cell? ⟨g3, o3 + j, none⟩ = some (.int .i64 ys[j]) := hrw2.cell j (iv_get hj)
            rw [Int.toNat_natCast, getD_get hj] at hg
            clear hrw2
            generalize ys[j] = y at hc2 hg
            have hal : t < (afterL xs ys).length := by rw [afterL_length]; exact c
            have hm : ((afterL xs ys).take t).map iv ++ [.int .i64 y] = ((afterL xs ys).take (t + 1)).map iv := by
              have e : (afterL xs ys)[t] = y := by rw [List.getElem?_eq_getElem hal] at hg; simpa using hg
              rw [List.take_succ_eq_append_getElem hal, List.map_append, e]; rfl
            have HM := Lib.hid hm
            have h63 : t + 1 ≤ maxLen := by unfold maxLen; omega
            have hby : (t + 1) * 8 ≤ 140737488355328 := by omega
            clear hm hg hal
            go_wp2_with ((at_builtin; go_must (refine wpList_append_one rfl (.tmp 30) (.tmp 35) 22 rfl 3 (.int .i64 0) 8 Try.underlying22 info_iv rfl (.slice oa t oc) t _ (.int .i64 y) rfl rfl Hr rfl h63 hby ?_); intro g7 c7 w7 H7; rw [HM.out] at H7))
            go_roundg (xs.length - (t + 1))
            case rel => exact ⟨t + 1, Lib.hid ⟨by omega, rfl⟩, by go_num, H7⟩
            case measure => omega
          · obtain rfl : t = xs.length := by omega
            rw [List.take_of_length_le (by rw [afterL_length]; omega)] at Hr
            go_wp2_with fail
            go_ret2
            exact ⟨_, rfl, .inr ⟨⟨HR.out, HR2.out, HLE.out⟩, _, rfl, Hr⟩⟩
      · have hlI : ((xs.length : Int) != (ys.length : Int)) = true := by rw [bne_iff_ne]; omega
        have HLE := Lib.hid hl
        clear hl
        go_enter Try.func25, Try.ntmps25
        go_wp2_with fail
        refine hc.mono ?_
        rintro e w1 ⟨rfl, H1⟩
        go_wp2_with fail
        refine (HC2.out _ H1).mono ?_
        rintro e w2 ⟨rfl, H2⟩
        go_wp2_with fail
        go_ret2
        exact ⟨_, rfl, .inl ⟨.inr (.inr HLE.out), rfl, H2⟩⟩

end Go.Proofs.Yticeolbagfaofaa
