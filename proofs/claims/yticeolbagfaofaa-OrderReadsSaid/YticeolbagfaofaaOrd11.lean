/- Reference 25: Bits. -/
import Derived.Test.YticeolbagfaofaaOrd10
namespace Go.Proofs.Yticeolbagfaofaa
open Go.RowKit

/-- The bits of the first numbers. -/
def encTo (xs : List Int) (t : Nat) : List Bool := (List.range t).flatMap fun j => valBits (lessN (xs.drop (j + 1)) (xs.getD j 0)) (widthN ((xs.length - j : Nat) : Int))
theorem encTo_succ (xs : List Int) (t : Nat) : encTo xs (t + 1) = encTo xs t ++ valBits (lessN (xs.drop (t + 1)) (xs.getD t 0)) (widthN ((xs.length - t : Nat) : Int)) := by
  unfold encTo
  rw [List.range_succ, List.flatMap_append]
  simp
theorem encTo_rest : ∀ (xs : List Int) (t : Nat), t ≤ xs.length → encTo xs t ++ encB (xs.drop t) = encB xs
  | xs, 0, _ => by simp [encTo]
  | xs, t + 1, h => by
    have ih := encTo_rest xs t (by omega)
    have hd : xs.drop t = xs[t] :: xs.drop (t + 1) := (List.getElem_cons_drop (by omega)).symm
    rw [hd, encB] at ih
    have e : (xs.drop (t + 1)).length + 1 = xs.length - t := by rw [List.length_drop]; omega
    rw [e, ← List.append_assoc] at ih
    rw [encTo_succ, getD_get (show t < xs.length by omega)]
    exact ih
theorem encTo_all (xs : List Int) : encTo xs xs.length = encB xs := by
  have := encTo_rest xs xs.length (Nat.le_refl _)
  rw [List.drop_length] at this
  rw [← this]; simp [encB]

theorem bit_of (d k : Nat) : ((d / 2 ^ k : Nat) : Int) % 2 = ((d.testBit k).toNat : Int) := by
  rw [Nat.testBit_eq_decide_div_mod_eq]
  have h : d / 2 ^ k % 2 = 0 ∨ d / 2 ^ k % 2 = 1 := by omega
  have e : ((d / 2 ^ k : Nat) : Int) % 2 = ((d / 2 ^ k % 2 : Nat) : Int) := by omega
  rw [e]
  rcases h with h | h <;> rw [h] <;> rfl

set_option maxRecDepth 100000 in
set_option maxHeartbeats 4000000 in
theorem bits25_calls {v : Value} {xs : List Int} {R : List HP} {w : World} (hlen : xs.length ≤ 1000) (hrd : Reads R v xs.length 1 (xs.map iv)) (H : Sep w R) :
    Calls Try.prog 14 #[v] w (Gives fun r w' => Sep w' (HP.row 3 1 r (encB xs).length ((encB xs).map bitv) :: R)) := by
  obtain ⟨a, cap, rfl⟩ := (hrd w H).form
  have hdg := fun w1 h => digits_calls (w := w1) hlen hrd h
  have HDG := Lib.hid hdg
  clear hdg hrd
  have HEL : Hid (∀ t, t ≤ xs.length → (encTo xs t).length ≤ 63000) := Lib.hid fun t ht => by
    have h1 := congrArg List.length (encTo_rest xs t ht)
    rw [List.length_append, encB_length xs] at h1
    have h2 := costN_le xs.length (by omega)
    omega
  have HES := Lib.hid (encTo_succ xs)
  have HEA := Lib.hid (encTo_all xs)
  go_enter Try.func14, Try.ntmps14
  go_wp2_with fail
  refine (HDG.out _ H).mono ?_
  rintro e w1 ⟨vd, rfl, H1⟩
  obtain ⟨da, dc, rfl⟩ := H1.row_form
  clear H HDG
  go_wp2_with fail
  go_loopg [3, 5, 6, 7, 8] xs.length (fun gk o i _ _ _ wr => ∃ t : Nat, ∃ ov : Value, ov = o ∧ Hid (t ≤ xs.length ∧ gk = xs.length - t) ∧ i = .int .i64 (t : Int) ∧ Sep wr (HP.row 3 1 ov (encTo xs t).length ((encTo xs t).map bitv) :: HP.row 3 1 (.slice da xs.length dc) xs.length ((digL xs).map iv) :: R))
  case atStart => exact ⟨0, _, rfl, Lib.hid ⟨by omega, rfl⟩, rfl, H1.row_nil _ _⟩
  case round =>
    clear H1
    obtain ⟨t, ov, rfl, hq, rfl, Hr⟩ := hrel
    obtain ⟨q1, q2⟩ := hq.out
    clear hq
    obtain ⟨oa, oc, rfl⟩ := Hr.row_form
    by_cases c : t < xs.length
    · have hg := digL_get c
      have hes := HES.out t
      rw [getD_get c] at hes
      have hle := lessN_le (xs.drop (t + 1)) xs[t]
      rw [List.length_drop] at hle
      obtain ⟨m, hm⟩ : ∃ m, xs.length - t = m + 1 := ⟨xs.length - t - 1, by omega⟩
      rw [hm] at hes
      have hwc := fun w1 => rwidth25_calls (m := m) (by omega) (w := w1)
      have hws := width_small (k := m) (by omega)
      have hsub : (xs.length : Int) - (t : Int) = ((m + 1 : Nat) : Int) := by omega
      have heb := HEL.out t q1
      generalize lessN (xs.drop (t + 1)) xs[t] = d at *
      generalize widthN ((m + 1 : Nat) : Int) = W at *
      generalize encTo xs t = E at *
      rw [show ((m + 1 : Nat) : Int) = (m : Int) + 1 from by omega] at hwc hsub
      have HESX := Lib.hid hes
      have HWC := Lib.hid hwc
      have HG := Lib.hid hg
      have hdb : d ≤ 1000 := by omega
      clear hes hwc hg hle hm
      obtain ⟨b, hb⟩ : ∃ b : Int, b = (xs.length : Int) - (t : Int) := ⟨_, rfl⟩
      go_wp2_with fail
      refine (HWC.out _).mono ?_
      rintro e w2 ⟨rfl, rfl⟩
      clear hsub hb HWC
      go_wp2_with fail
      go_loopg [3, 7, 8] W (fun gk o k _ wr => ∃ u : Nat, ∃ ov : Value, ov = o ∧ Hid (u ≤ W ∧ gk = W - u) ∧ k = .int .i64 ((W : Int) - 1 - (u : Int)) ∧ Sep wr (HP.row 3 1 ov (E.length + u) ((E ++ (valBits d W).take u).map bitv) :: HP.row 3 1 (.slice da xs.length dc) xs.length ((digL xs).map iv) :: R))
      case atStart => exact ⟨0, _, rfl, Lib.hid ⟨by omega, rfl⟩, by go_num, by simpa using Hr⟩
      case round =>
        clear Hr
        obtain ⟨u, ov, rfl, hq, rfl, Hr⟩ := hrel
        obtain ⟨q3, q4⟩ := hq.out
        clear hq
        obtain ⟨pa, pc, rfl⟩ := Hr.row_form
        by_cases cu : u < W
        · have hW0 : (0 : Int) ≤ (W : Int) - 1 - (u : Int) := by omega
          obtain ⟨k, hk⟩ : ∃ k : Nat, W - 1 - u = k := ⟨_, rfl⟩
          have hkI : (W : Int) - 1 - (u : Int) = (k : Int) := by omega
          obtain ⟨g, cp, cur, he, -⟩ := Hr.tail.row_open (by omega)
          simp only [Value.slice.injEq, true_and] at he
          obtain ⟨rfl, rfl⟩ := he
          have cd : wr.cell? ⟨g, t, none⟩ = some (.int .i64 (d : Int)) := Hr.tail.row_cell t (by rw [List.getElem?_map, HG.out]; rfl)
          have hkb : k ≤ 20 := by omega
          rw [hkI]
          clear hW0
          go_wp2_with fail
          go_loopg [8, 33] k (fun gk x j wr2 => wr2 = wr ∧ ∃ s : Nat, Hid (s ≤ k ∧ gk = k - s) ∧ x = .int .i64 ((d / 2 ^ s : Nat) : Int) ∧ j = .int .i64 (s : Int))
          case atStart => exact ⟨rfl, 0, Lib.hid ⟨by omega, rfl⟩, by simp, rfl⟩
          case round =>
            obtain ⟨rfl, s, hq, rfl, rfl⟩ := hrel
            obtain ⟨q5, q6⟩ := hq.out
            clear hq
            by_cases cs : s < k
            · have hdiv : d / 2 ^ (s + 1) = d / 2 ^ s / 2 := by rw [Nat.pow_succ, Nat.div_div_eq_div_mul]
              have HDV := Lib.hid hdiv
              have hdb2 : d / 2 ^ s ≤ 1000 := Nat.le_trans (Nat.div_le_self _ _) hdb
              clear hdiv
              generalize d / 2 ^ s = y at *
              have hq2 : ((y : Int)).tdiv 2 = (y : Int) / 2 := Int.tdiv_eq_ediv_of_nonneg (by omega)
              go_wp2_with fail
              go_roundg (k - (s + 1))
              case rel => exact ⟨rfl, s + 1, Lib.hid ⟨by omega, rfl⟩, by rw [HDV.out]; go_num, by go_num⟩
              case measure => omega
            · obtain rfl : s = k := by omega
              have hbit := bit_of d s
              have hv : (valBits d W)[u]? = some (d.testBit s) := by
                unfold valBits
                rw [List.getElem?_map, List.getElem?_range cu, ← hk]; rfl
              have hdb2 : d / 2 ^ s ≤ 1000 := Nat.le_trans (Nat.div_le_self _ _) hdb
              have hul : u < (valBits d W).length := by rw [valBits_length]; exact cu
              have hget : (valBits d W)[u] = d.testBit s := by rw [List.getElem?_eq_getElem hul] at hv; simpa using hv
              have hm2 : (E ++ (valBits d W).take u).map bitv ++ [.int .i64 ((d.testBit s).toNat : Int)] = (E ++ (valBits d W).take (u + 1)).map bitv := by
                rw [List.take_succ_eq_append_getElem hul, ← List.append_assoc, List.map_append (l₁ := E ++ (valBits d W).take u), hget]
                cases d.testBit s <;> rfl
              have HM := Lib.hid hm2
              have hrem : (((d / 2 ^ s : Nat) : Int)).tmod 2 = ((d.testBit s).toNat : Int) := by rw [Int.tmod_eq_emod_of_nonneg (Int.natCast_nonneg _), hbit]
              generalize d / 2 ^ s = y at *
              generalize (d.testBit s).toNat = bt at *
              have h63 : E.length + u + 1 ≤ maxLen := by unfold maxLen; omega
              have hby : (E.length + u + 1) * 8 ≤ 140737488355328 := by omega
              clear hm2 hget hv hul cd
              go_wp2_with ((at_builtin; go_must (refine wpList_append_one rfl (.tmp 38) (.tmp 41) 22 rfl 3 (.int .i64 0) 8 Try.underlying22 info_iv rfl (.slice pa (E.length + u) pc) (E.length + u) _ (.int .i64 (bt : Int)) rfl rfl Hr rfl h63 hby ?_); intro g7 c7 w7 H7; rw [HM.out] at H7))
              go_roundg (W - (u + 1))
              case rel => exact ⟨u + 1, _, rfl, Lib.hid ⟨by omega, rfl⟩, by go_num, H7⟩
              case measure => omega
        · obtain rfl : u = W := by omega
          have hn : ¬ (0 : Int) ≤ (u : Int) - 1 - (u : Int) := by omega
          have hE2 : E.length + u = (encTo xs (t + 1)).length := by rw [HESX.out, List.length_append, valBits_length]
          have hE3 : E ++ (valBits d u).take u = encTo xs (t + 1) := by rw [HESX.out, List.take_of_length_le (by rw [valBits_length]; omega)]
          rw [hE2, hE3] at Hr
          have H8 := Lib.hid Hr
          rw [hE2]
          clear Hr hE2 hE3
          go_wp2_with fail
          go_roundg (xs.length - (t + 1))
          case rel => exact ⟨t + 1, _, rfl, Lib.hid ⟨by omega, rfl⟩, by go_num, H8.out⟩
          case measure => omega
    · obtain rfl : t = xs.length := by omega
      rw [HEA.out] at Hr ⊢
      have H9 := Lib.hid Hr.swap.tail
      clear Hr
      go_wp2_with fail
      go_ret
      exact ⟨_, rfl, H9.out⟩

end Go.Proofs.Yticeolbagfaofaa
