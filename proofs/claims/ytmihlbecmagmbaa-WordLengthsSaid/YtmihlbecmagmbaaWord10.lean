/- Reference 22: Lengths, Right. -/
import Derived.Test.YtmihlbecmagmbaaWord9
namespace Go.Proofs.Ytmihlbecmagmbaa
open Go.RowKit Go.Shelf

theorem missI_iff (l : List UInt8) : lenP l = decide (missI l = 0) := by
  rw [Bool.eq_iff_iff, lenP_iff, decide_eq_true_eq]
  unfold missI
  constructor
  · rintro ⟨x, hx⟩
    have := st_miss l [] [x] hx
    rw [show [x].length = 1 from rfl, show ([] : List Int).length = 0 from rfl] at this
    rw [this]; rfl
  · intro h
    cases hm : miss 1 l with
    | none => rw [hm] at h; simp at h
    | some m =>
      rw [hm] at h
      simp only at h
      obtain rfl : m = 0 := by omega
      obtain ⟨t, h1, h2⟩ := miss_st l 1 0 [] hm rfl
      rcases t with _ | ⟨x, _ | ⟨y, t⟩⟩ <;> simp at h2
      exact ⟨x, h1⟩
/-- At each place of a word some word begins. -/
theorem word_at {l : List UInt8} (h : lenP l = true) {k : Nat} (hk : k < l.length) : ∃ t, st (l.drop k) [] = some (hdL (l.drop k) :: t) := by
  obtain ⟨x, hx⟩ := lenP_iff.1 h
  have hsp : st (l.take k ++ l.drop k) [] = some [x] := by rw [List.take_append_drop]; exact hx
  obtain ⟨j, e1, e2⟩ := st_tail hsp
  have hne : j ≠ [] := by
    cases hj : l.drop k with
    | nil => have := congrArg List.length hj; rw [List.length_drop] at this; simp at this; omega
    | cons c u => rw [hj] at e1; exact st_ne e1
  rcases j with _ | ⟨z, t⟩
  · exact absurd rfl hne
  exact ⟨t, by rw [e1]; simp [hdL, e1]⟩
theorem lensL_succ {l : List UInt8} {k : Nat} (h : k < l.length) : (lensL l).take (k + 1) = (lensL l).take k ++ [hdL (l.drop k)] := by
  have hk : k < (lensL l).length := by rw [lensL_length]; exact h
  rw [List.take_succ_eq_append_getElem hk, lensL_get hk]

set_option maxRecDepth 100000 in
set_option maxHeartbeats 1000000 in
theorem rlengths_calls {l : List UInt8} {R : List HP} {w : World} (hlen : l.length ≤ 1000) (H : Sep w R) :
    Calls Try.prog 19 #[.string (str l)] w fun e w' => ∃ v, e = .returned (.tuple #[v, .bool (lenP l)]) ∧ Sep w' (HP.row 3 1 v (lensR l).length ((lensR l).map iv) :: R) := by
  have hmc := fun w => missing_calls (l := l) (w := w) (by omega)
  have HMC := Lib.hid hmc
  have hmi := missI_iff l
  have hss := str_size l
  clear hmc
  unfold lensR
  by_cases hz : missI l = 0
  · have hp : lenP l = true := by rw [hmi, decide_eq_true hz]
    rw [hz] at HMC
    have HLC : Hid (∀ (k : Nat) (w : World), k < l.length → Calls Try.prog 45 #[.string (str l), .int .i64 (k : Int)] w fun e w' => (∃ next : Nat, e = .returned (.tuple #[.int .i64 (hdL (l.drop k)), .int .i64 (next : Int)])) ∧ w = w') := Lib.hid fun k w hk => by
      obtain ⟨t, ht⟩ := word_at hp hk
      refine (length_calls hlen l.length k _ t w (by omega) ht).mono ?_
      rintro e w2 ⟨⟨next, _, _, _, rfl⟩, rfl⟩
      exact ⟨⟨next, rfl⟩, rfl⟩
    have hll := lensL_length l
    have HLS : Hid (∀ k, k < l.length → (lensL l).take (k + 1) = (lensL l).take k ++ [hdL (l.drop k)]) := Lib.hid fun k hk => lensL_succ hk
    have HE : Sep (w.alloc (.cells #[] 3)) (HP.row 3 1 (.slice (some ⟨w.heap.size, 0, none⟩) 0 0) 0 [] :: R) :=
      Sep.row_shut (H.alloc #[] 3) (Nat.le_refl _) (by unfold maxLen; omega) rfl rfl
    have HLL := Lib.hid hll
    rw [hp]
    clear hz hmi hp hll H
    go_enter Try.func19, Try.ntmps19
    go_wp2_with fail
    refine (HMC.out _).mono ?_
    rintro e w2 ⟨rfl, rfl⟩
    go_wp2_with fail
    go_loopg [4, 5, 6, 7] l.length (fun gk out i _ _ wr => ∃ t : Nat, Hid (t ≤ l.length ∧ gk = l.length - t) ∧ i = .int .i64 (t : Int) ∧ Sep wr (HP.row 3 1 out t (((lensL l).take t).map iv) :: R))
    case atStart => exact ⟨0, Lib.hid ⟨by omega, rfl⟩, rfl, HE⟩
    case round =>
      clear HE
      obtain ⟨t, hq, rfl, Hr⟩ := hrel
      obtain ⟨q1, q2⟩ := hq.out
      clear hq
      by_cases c : t < l.length
      · have hi : (t : Int) < ((str l).size : Int) := by rw [hss]; omega
        have hc := HLC.out t wr c
        have hs := HLS.out t c
        generalize hdL (l.drop t) = y at *
        have hm : ((lensL l).take t).map iv ++ [.int .i64 y] = ((lensL l).take (t + 1)).map iv := by rw [hs, List.map_append]; rfl
        have HM := Lib.hid hm
        clear hs hm
        obtain ⟨oa, oc, rfl⟩ := Hr.row_form
        have h63 : t + 1 ≤ maxLen := by simp only [maxLen]; omega
        have hby : (t + 1) * 8 ≤ 140737488355328 := by omega
        go_wp2_with fail
        refine hc.mono ?_
        rintro e w3 ⟨⟨next, rfl⟩, rfl⟩
        go_wp2_with ((at_builtin; go_must (refine wpList_append_one rfl (.tmp 24) (.tmp 26) 25 rfl 3 (.int .i64 0) 8 Try.underlying25 info_iv rfl (.slice oa t oc) t _ (.int .i64 y) rfl rfl Hr rfl h63 hby ?_); intro g7 c7 w7 H7; rw [HM.out] at H7))
        go_roundg (l.length - (t + 1))
        case rel => exact ⟨t + 1, Lib.hid ⟨by omega, rfl⟩, by go_num, H7⟩
        case measure => omega
      · obtain rfl : t = l.length := by omega
        have hi : ¬ (l.length : Int) < ((str l).size : Int) := by rw [hss]; omega
        rw [List.take_of_length_le (by rw [HLL.out]; omega)] at Hr
        go_wp2_with fail
        go_ret2
        refine ⟨_, rfl, ?_⟩
        have hh := HLL.out
        generalize lensL l = xs at *
        rw [hh]
        exact Hr
  · have hp : lenP l = false := by rw [hmi, decide_eq_false hz]
    have e1 : (missI l != 0) = true := by simp [hz]
    generalize missI l = z at *
    rw [hp]
    clear hmi hp
    go_enter Try.func19, Try.ntmps19
    go_wp2_with fail
    refine (HMC.out _).mono ?_
    rintro e w2 ⟨rfl, rfl⟩
    go_wp2_with fail
    go_ret2
    exact ⟨_, rfl, H.row_nil _ _⟩

set_option maxRecDepth 100000 in
set_option maxHeartbeats 1000000 in
theorem rright_calls {l : List UInt8} {R : List HP} {w : World} (hlen : l.length ≤ 1000) (H : Sep w R) :
    Calls Try.prog 13 #[.string (str l)] w fun e w' => e = .returned (.bool (rightB l)) ∧ Sep w' R := by
  have hl := rlengths_calls hlen H
  have hll := lensL_length l
  unfold lensR at hl
  cases hp : lenP l with
  | false =>
    have hr := right_not hp
    rw [hp] at hl
    rw [hr]
    clear hr hp hll
    go_enter Try.func13, Try.ntmps13
    go_wp2_with fail
    refine hl.mono ?_
    rintro e w1 ⟨v, rfl, H1⟩
    go_wp2_with fail
    go_ret
    exact ⟨rfl, H1.tail⟩
  | true =>
    have hr := right_lens hp
    have hpos := lenP_pos hp
    rw [hp, if_pos rfl] at hl
    rw [← hll] at hpos
    rw [hr]
    clear hr hp
    generalize lensL l = xs at *
    have hxl : xs.length ≤ 1000 := by omega
    clear hll
    obtain ⟨x, hx⟩ : ∃ x, x = xs[0] := ⟨_, rfl⟩
    have hhd : xs.headD 0 = x := by rw [hx, headD_get hpos]
    rw [hhd]
    by_cases h3 : x = 3
    · have hres : Hid ((decide (x = 3) && decide (∀ y ∈ xs, 3 ≤ y)) = decide (∀ y ∈ xs, 3 ≤ y)) := Lib.hid (by rw [decide_eq_true h3]; rfl)
      rw [hres.out]
      subst h3
      clear hres
      go_enter Try.func13, Try.ntmps13
      go_wp2_with fail
      refine hl.mono ?_
      rintro e w1 ⟨v, rfl, H1⟩
      clear hl H
      have hrd := H1.rd
      obtain ⟨g, o, cap, rfl⟩ := hrd.open (by omega)
      obtain ⟨g2, cap2, _, he, _⟩ := H1.row_open (by omega)
      simp only [Value.slice.injEq, Option.some.injEq, Addr.mk.injEq, true_and, and_true] at he
      obtain ⟨⟨rfl, rfl⟩, rfl⟩ := he
      have c0 := H1.row_cell 0 (iv_get hpos)
      rw [← hx] at c0
      clear hx hhd
      go_wp2_with fail
      clear c0
      go_loopg [5] xs.length (fun gk i wr => wr = w1 ∧ ∃ t : Nat, Hid (t ≤ xs.length ∧ gk = xs.length - t) ∧ Hid (∀ y ∈ xs.take t, 3 ≤ y) ∧ i = .int .i64 (t : Int))
      case atStart => exact ⟨rfl, 0, Lib.hid ⟨by omega, rfl⟩, Lib.hid (fun y hy => by simp at hy), rfl⟩
      case round =>
        obtain ⟨rfl, t, hq, hall, rfl⟩ := hrel
        obtain ⟨q1, q2⟩ := hq.out
        clear hq
        by_cases c : t < xs.length
        · have c1 := H1.row_cell t (iv_get c)
          by_cases hlt : xs[t] < 3
          · have hno : decide (∀ y ∈ xs, 3 ≤ y) = false := decide_eq_false fun h => by have := h _ (List.getElem_mem c); omega
            have HNO := Lib.hid hno
            clear hno
            generalize xs[t] = z at *
            go_wp2_with fail
            go_ret
            exact ⟨by rw [HNO.out]; rfl, H1.tail⟩
          · have HN : Hid (∀ y ∈ xs.take (t + 1), 3 ≤ y) := Lib.hid (by
              rw [List.take_succ_eq_append_getElem c]
              intro y hy
              rcases List.mem_append.1 hy with hy | hy
              · exact hall.out y hy
              · have : y = xs[t] := by simpa using hy
                omega)
            generalize xs[t] = z at c1 hlt
            go_wp2_with fail
            go_roundg (xs.length - (t + 1))
            case rel => exact ⟨rfl, t + 1, Lib.hid ⟨by omega, rfl⟩, HN, by go_num⟩
            case measure => omega
        · obtain rfl : t = xs.length := by omega
          have hyes : decide (∀ y ∈ xs, 3 ≤ y) = true := decide_eq_true (by have := hall.out; rwa [List.take_length] at this)
          have HY := Lib.hid hyes
          clear hyes
          go_wp2_with fail
          go_ret
          exact ⟨by rw [HY.out]; rfl, H1.tail⟩
    · have hres : (decide (x = 3) && decide (∀ y ∈ xs, 3 ≤ y)) = false := by rw [decide_eq_false h3]; rfl
      rw [hres]
      clear hres
      go_enter Try.func13, Try.ntmps13
      go_wp2_with fail
      refine hl.mono ?_
      rintro e w1 ⟨v, rfl, H1⟩
      clear hl H
      have hrd := H1.rd
      obtain ⟨g, o, cap, rfl⟩ := hrd.open (by omega)
      obtain ⟨g2, cap2, _, he, _⟩ := H1.row_open (by omega)
      simp only [Value.slice.injEq, Option.some.injEq, Addr.mk.injEq, true_and, and_true] at he
      obtain ⟨⟨rfl, rfl⟩, rfl⟩ := he
      have c0 := H1.row_cell 0 (iv_get hpos)
      rw [← hx] at c0
      clear hx hhd
      have e1 : (x != 3) = true := by simp [h3]
      go_wp2_with fail
      go_ret
      exact ⟨rfl, H1.tail⟩

set_option maxRecDepth 100000 in
set_option maxHeartbeats 1000000 in
theorem times_calls {c : UInt8} {n : Nat} {w : World} (hn : n ≤ 100000) :
    Calls Try.prog 50 #[.string ⟨#[c]⟩, .int .i64 (n : Int)] w fun e w' => e = .returned (.string (str (List.replicate n c))) ∧ w = w' := by
  go_enter Try.func50, Try.ntmps50
  go_wp2_with fail
  go_loopg [5, 6] n (fun gk s i wr => wr = w ∧ ∃ t : Nat, Hid (t ≤ n ∧ gk = n - t) ∧ s = .string (str (List.replicate t c)) ∧ i = .int .i64 (t : Int))
  case atStart => exact ⟨rfl, 0, Lib.hid ⟨by omega, rfl⟩, rfl, rfl⟩
  case round =>
    obtain ⟨rfl, t, hq, rfl, rfl⟩ := hrel
    obtain ⟨q1, q2⟩ := hq.out
    clear hq
    by_cases hlt : t < n
    · have ha : str (List.replicate t c) ++ ⟨#[c]⟩ = str (List.replicate (t + 1) c) := by
        rw [List.replicate_succ']; exact str_append _ [c]
      have hsz := str_size (List.replicate t c)
      rw [List.length_replicate] at hsz
      generalize hS : str (List.replicate (t + 1) c) = S2 at *
      have HS := Lib.hid hS
      clear hS
      go_wp2_with fail
      go_roundg (n - (t + 1))
      case rel => exact ⟨rfl, t + 1, Lib.hid ⟨by omega, rfl⟩, by rw [HS.out]; try rw [ha], by go_num⟩
      case measure => omega
    · obtain rfl : t = n := by omega
      go_wp2_with fail
      go_ret
      exact ⟨rfl, rfl⟩

end Go.Proofs.Ytmihlbecmagmbaa
