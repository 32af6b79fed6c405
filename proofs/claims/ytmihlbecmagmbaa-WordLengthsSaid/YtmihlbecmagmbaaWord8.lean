/- word: Right, Least. -/
import Derived.Test.YtmihlbecmagmbaaWord7
namespace Go.Proofs.Ytmihlbecmagmbaa
open Go.RowKit Go.Shelf

theorem str_extract (l : List UInt8) (i j : Nat) : (str l).extract i j = str ((l.take j).drop i) := by
  apply ba_ext
  simp [str, ByteArray.data_extract, List.extract_eq_take_drop, List.drop_take]

theorem good_all_iff : ∀ (l : List UInt8) (i : List Int), goodB l i = true ↔ ∀ k, k < l.length → ∃ x t, st (l.drop k) i = some (x :: t) ∧ 3 ≤ x
  | [], i => by simp [goodB]
  | c :: l, i => by
    rw [good_cons, good_all_iff l i]
    constructor
    · rintro ⟨h1, h2⟩ k hk
      cases k with
      | zero => exact h2
      | succ k => exact h1 k (by simpa using hk)
    · intro h
      exact ⟨fun k hk => h (k + 1) (by simpa using hk), h 0 (by simp)⟩
theorem lenP_iff {l : List UInt8} : lenP l = true ↔ ∃ x, st l [] = some [x] := by
  unfold lenP
  cases h : st l [] with
  | none => simp
  | some t =>
    rcases t with _ | ⟨x, _ | ⟨y, t⟩⟩ <;> simp
theorem lensL_length (l : List UInt8) : (lensL l).length = l.length := by simp [lensL]
theorem lensL_get {l : List UInt8} {k : Nat} (h : k < (lensL l).length) : (lensL l)[k] = hdL (l.drop k) := by simp [lensL]
theorem lenP_pos {l : List UInt8} (h : lenP l = true) : 0 < l.length := by
  cases l with
  | nil => simp [lenP, st] at h
  | cons c l => simp
theorem headD_get {xs : List Int} (h : 0 < xs.length) : xs.headD 0 = xs[0] := by
  cases xs with
  | nil => cases h
  | cons => rfl
/-- Right, by the lengths. -/
theorem right_lens {l : List UInt8} (h : lenP l = true) : rightB l = (decide ((lensL l).headD 0 = 3) && decide (∀ x ∈ lensL l, 3 ≤ x)) := by
  obtain ⟨x, hx⟩ := lenP_iff.1 h
  have hpos := lenP_pos h
  have hd : (lensL l).headD 0 = x := by
    have h0 : 0 < (lensL l).length := by rw [lensL_length]; exact hpos
    have := lensL_get h0
    rw [List.drop_zero] at this
    rw [headD_get h0, this]
    simp [hdL, hx]
  rw [Bool.eq_iff_iff, rightB_iff, Bool.and_eq_true, decide_eq_true_eq, decide_eq_true_eq, hd, hx]
  refine and_congr (by simp) ?_
  rw [good_all_iff]
  constructor
  · intro hg y hy
    obtain ⟨k, hk, rfl⟩ := List.mem_iff_getElem.1 hy
    rw [lensL_get hk]
    obtain ⟨z, t, e1, e2⟩ := hg k (by rw [← lensL_length]; exact hk)
    simp [hdL, e1, e2]
  · intro hg k hk
    have hk' : k < (lensL l).length := by rw [lensL_length]; exact hk
    have h3 := hg _ (List.getElem_mem hk')
    rw [lensL_get hk'] at h3
    have hsp : st (l.take k ++ l.drop k) [] = some [x] := by rw [List.take_append_drop]; exact hx
    obtain ⟨j, e1, e2⟩ := st_tail hsp
    have hne : j ≠ [] := by
      cases hj : l.drop k with
      | nil => have := congrArg List.length hj; rw [List.length_drop] at this; simp at this; omega
      | cons c u => rw [hj] at e1; exact st_ne e1
    rcases j with _ | ⟨z, t⟩
    · exact absurd rfl hne
    refine ⟨z, t, e1, ?_⟩
    simpa [hdL, e1] using h3
theorem right_not {l : List UInt8} (h : lenP l = false) : rightB l = false := by
  cases hr : rightB l with
  | false => rfl
  | true =>
    have := lenP_iff.2 ⟨3, (rightB_iff.1 hr).1⟩
    rw [h] at this; cases this

set_option maxRecDepth 100000 in
set_option maxHeartbeats 1000000 in
theorem right_calls {l : List UInt8} {R : List HP} {w : World} (hlen : l.length ≤ 1000) (H : Sep w R) :
    Calls Try.prog 12 #[.string (str l)] w fun e w' => e = .returned (.bool (rightB l)) ∧ Sep w' R := by
  have hl := lengths_calls hlen H
  have hll := lensL_length l
  unfold lensR lenE at hl
  go_enter Try.func12, Try.ntmps12
  cases hp : lenP l with
  | false =>
    have hr := right_not hp
    rw [hp] at hl
    have HR := Lib.hid hr
    clear hr hp hll
    go_wp2_with fail
    refine hl.mono ?_
    rintro e w1 ⟨v, rfl, H1⟩
    go_wp2_with fail
    go_ret
    exact ⟨by rw [HR.out]; rfl, H1.tail⟩
  | true =>
    have hr := right_lens hp
    have hpos := lenP_pos hp
    rw [hp, if_pos rfl, if_pos rfl] at hl
    rw [← hll] at hpos
    have HR := Lib.hid hr
    clear hr hp
    generalize lensL l = xs at *
    have HL := Lib.hid hll
    clear hll
    go_wp2_with fail
    refine hl.mono ?_
    rintro e w1 ⟨v, rfl, H1⟩
    clear hl H
    have hrd := H1.rd
    obtain ⟨g, o, cap, rfl⟩ := hrd.open (by omega)
    obtain ⟨g2, cap2, _, he, _⟩ := H1.row_open (by omega)
    simp only [Value.slice.injEq, Option.some.injEq, Addr.mk.injEq, true_and, and_true] at he
    obtain ⟨⟨rfl, rfl⟩, rfl⟩ := he
    obtain ⟨x, hx⟩ : ∃ x, x = xs[0] := ⟨_, rfl⟩
    have hhd : xs.headD 0 = x := by
      rw [hx, headD_get hpos]
    have c0 := H1.row_cell 0 (iv_get hpos)
    rw [← hx] at c0
    rw [hhd] at HR
    have hmin := min3_calls (by omega) (by have := HL.out; omega) hrd
    clear hx hhd
    by_cases h3 : x = 3
    · subst h3
      go_wp2_with fail
      refine hmin.mono ?_
      rintro e w2 ⟨rfl, m, rfl, hm⟩
      have HM := Lib.hid hm
      clear hm
      go_wp2_with fail
      go_ret
      refine ⟨?_, H1.tail⟩
      show Ending.returned (.bool (decide (3 ≤ m))) = Ending.returned (.bool _)
      have hdd : decide (3 ≤ m) = decide (∀ x ∈ xs, 3 ≤ x) := decide_eq_decide.2 HM.out
      rw [HR.out, hdd]
      simp
    · have e1 : (x == 3) = false := by simp [h3]
      go_wp2_with fail
      go_ret
      refine ⟨?_, H1.tail⟩
      rw [HR.out, decide_eq_false h3]; rfl

set_option maxRecDepth 100000 in
set_option maxHeartbeats 1000000 in
theorem least1_says {bx : Nat} {l : List UInt8} {R : List HP} (hlen : l.length ≤ 1000) :
    Says1 36 (.pointer (some ⟨bx, 0, none⟩)) (HP.pt bx #[.string (str l)] 9 :: R) l.length (fun i => !begB (l.take (i + 1))) := by
  intro i w hi H
  have c0 : w.cell? ⟨bx, 0, none⟩ = some (.string (str l)) := H.cell 0 rfl
  have he : (str l).extract 0 (i + 1) = str (l.take (i + 1)) := by rw [str_extract, List.drop_zero]
  have hb := fun w1 (h : Sep w1 (HP.pt bx #[.string (str l)] 9 :: R)) => begins_calls (w := w1) (l := l.take (i + 1)) (by rw [List.length_take]; omega) h
  have hs := str_size l
  show Calls Try.prog 36 #[.int .i64 (i : Int), _] w fun e w' => e = .returned (.bool (!begB (l.take (i + 1)))) ∧ Sep w' _
  have HB := Lib.hid hb
  clear hb
  generalize l.take (i + 1) = u at *
  go_enter Try.func36, Try.ntmps36
  go_wp2_with fail
  refine (HB.out _ H).mono ?_
  rintro e w2 ⟨rfl, H2⟩
  go_wp2_with fail
  go_ret
  exact ⟨rfl, H2⟩

set_option maxRecDepth 100000 in
set_option maxHeartbeats 1000000 in
theorem least_calls {l : List UInt8} {R : List HP} {w : World} (hlen : l.length ≤ 1000) (H : Sep w R) :
    Calls Try.prog 14 #[.string (str l)] w fun e w' => e = .returned (.int .i64 (leastI l)) ∧ Sep w' R := by
  have H1 := H.alloc #[.string (str l)] 9
  have hr := right_calls hlen H1
  have hss := str_size l
  go_enter Try.func14, Try.ntmps14
  cases hp : rightB l with
  | true =>
    rw [hp] at hr
    have HL : Hid (leastI l = -1) := Lib.hid (by unfold leastI; rw [hp]; rfl)
    clear hp
    have c0 := H1.cell 0 rfl
    go_wp2_with fail
    refine hr.mono ?_
    rintro e w2 ⟨rfl, H2⟩
    go_wp2_with fail
    go_ret
    exact ⟨by rw [HL.out]; rfl, H2.tail⟩
  | false =>
    rw [hp] at hr
    have HL : Hid (leastI l = (leastK l : Int)) := Lib.hid (by unfold leastI; rw [hp]; rfl)
    clear hp
    have c0 := H1.cell 0 rfl
    go_wp2_with fail
    refine hr.mono ?_
    rintro e w2 ⟨rfl, H2⟩
    have c2 := H2.cell 0 rfl
    have hmf : ∀ (fn : Fn) (first cap : Array Value) (w : World), (Instr.makeFunc fn first cap).run Try.prog w = .ok (.func fn first cap) w := fun _ _ _ _ => rfl
    have hen : ∀ args w, (callFunc 36 args).run Try.prog w = .ok (.enter 36 args) w := enters_of Try.func36 (by kernel_rfl) rfl
    obtain ⟨k1, k2, k3⟩ := leastK_spec l
    have hS := search1_calls hen (by omega) k1 (p := fun i => !begB (l.take (i + 1))) (fun i hi => by show (!begB (l.take (i + 1))) = false; rw [k2 i hi]; rfl) (fun i hi hi2 => by
      show (!begB (l.take (i + 1))) = true
      have h0 := k3 (by omega)
      cases hb : begB (l.take (i + 1)) with
      | false => rfl
      | true =>
        have : begB (l.take (leastK l + 1)) = true := by
          have e : l.take (i + 1) = l.take (leastK l + 1) ++ (l.take (i + 1)).drop (leastK l + 1) := by
            have := List.take_append_drop (leastK l + 1) (l.take (i + 1))
            rw [List.take_take, Nat.min_eq_left (by omega)] at this
            exact this.symm
          rw [e] at hb
          exact beg_mono hb
        rw [h0] at this; cases this) (least1_says hlen) H2
    have HEN := Lib.hid hen
    have HS := Lib.hid hS
    clear k1 k2 k3 hen hS
    go_wp2_with fail
    refine HS.out.mono ?_
    rintro e w3 ⟨rfl, H3⟩
    go_wp2_with fail
    go_ret
    exact ⟨by rw [HL.out]; rfl, H3.tail⟩

end Go.Proofs.Ytmihlbecmagmbaa
