/- Reference 25: Width, Digits, Bits. -/
import Derived.Test.YticeolbagfaofaaOrd9
namespace Go.Proofs.Yticeolbagfaofaa
open Go.RowKit

/-- The least power of two from a number on. -/
theorem width_pow {k : Nat} (hk : k + 1 ≤ 1000000) (u : Nat) : 2 ^ u < k + 1 ↔ u < widthN ((k + 1 : Nat) : Int) := by
  by_cases h1 : k = 0
  · subst h1
    have e : widthN ((0 + 1 : Nat) : Int) = 0 := by decide
    rw [e]
    have := Nat.one_le_two_pow (n := u)
    omega
  obtain ⟨v, hv1, hv2, hv3, hv4⟩ := widthN_parts (m := k + 1) (by omega) hk
  rw [hv1]
  constructor
  · intro h
    apply Nat.lt_of_not_le
    intro hc
    have := Nat.pow_le_pow_right (n := 2) (by omega) hc
    omega
  · intro h
    have := Nat.pow_le_pow_right (n := 2) (by omega) (show u ≤ v by omega)
    omega
theorem width_small {k : Nat} (hk : k + 1 ≤ 1000000) : widthN ((k + 1 : Nat) : Int) ≤ 20 := by
  apply Nat.le_of_not_lt
  intro h
  have := (width_pow hk 20).2 h
  have h2 : (2 : Nat) ^ 20 = 1048576 := by decide +kernel
  omega

set_option maxRecDepth 100000 in
set_option maxHeartbeats 1000000 in
theorem rwidth25_calls {m : Nat} (hm : m + 1 ≤ 1000000) {w : World} :
    Calls Try.prog 33 #[.int .i64 ((m + 1 : Nat) : Int)] w fun e w' => e = .returned (.int .i64 (widthN ((m + 1 : Nat) : Int) : Int)) ∧ w = w' := by
  have HPW := Lib.hid (width_pow hm)
  have hws := width_small hm
  obtain ⟨b, hb⟩ : ∃ b, b = m + 1 := ⟨_, rfl⟩
  rw [← hb] at HPW hws hm ⊢
  clear hb
  generalize widthN (b : Int) = W at *
  go_enter Try.func33, Try.ntmps33
  go_wp2_with fail
  go_loopg [3, 4] W (fun gk wv n wr => wr = w ∧ ∃ u : Nat, Hid (u ≤ W ∧ gk = W - u) ∧ wv = .int .i64 (u : Int) ∧ n = .int .i64 ((2 ^ u : Nat) : Int))
  case atStart => exact ⟨rfl, 0, Lib.hid ⟨by omega, rfl⟩, rfl, rfl⟩
  case round =>
    obtain ⟨rfl, u, hq, rfl, rfl⟩ := hrel
    obtain ⟨q1, q2⟩ := hq.out
    clear hq
    have hp := HPW.out u
    have hpb : 2 ^ u ≤ 2 ^ 20 := Nat.pow_le_pow_right (by omega) (by omega)
    have h20 : (2 : Nat) ^ 20 = 1048576 := by decide +kernel
    rw [h20] at hpb
    have hs : 2 ^ (u + 1) = 2 ^ u * 2 := Nat.pow_succ 2 u
    have HS := Lib.hid hs
    clear h20 hs
    generalize 2 ^ u = P at *
    by_cases c : u < W
    · have hlt : (P : Int) < (b : Int) := by have := hp.2 c; omega
      clear hp
      go_wp2_with fail
      go_roundg (W - (u + 1))
      case rel => exact ⟨rfl, u + 1, Lib.hid ⟨by omega, rfl⟩, by go_num, by rw [HS.out]; go_num⟩
      case measure => omega
    · have hlt : ¬ (P : Int) < (b : Int) := by have := fun h => c (hp.1 h); omega
      obtain rfl : u = W := by omega
      clear hp
      go_wp2_with fail
      go_ret
      exact ⟨rfl, rfl⟩

/-- The digits: of each number how many of those behind it are less. -/
def digL : List Int → List Int
  | [] => []
  | x :: l => (lessN l x : Int) :: digL l
theorem digL_length : ∀ p : List Int, (digL p).length = p.length
  | [] => rfl
  | x :: l => by rw [digL, List.length_cons, List.length_cons, digL_length l]
theorem digL_get : ∀ {p : List Int} {i : Nat} (h : i < p.length), (digL p)[i]? = some (lessN (p.drop (i + 1)) p[i] : Int)
  | x :: l, 0, _ => by simp [digL]
  | x :: l, i + 1, h => by
    have h2 : i < l.length := by simpa using h
    simpa [digL] using digL_get h2
theorem lessN_take_succ {p : List Int} {i k : Nat} {x : Int} (hk : k < p.length) (hik : i + 1 ≤ k) : lessN ((p.drop (i + 1)).take (k + 1 - (i + 1))) x = lessN ((p.drop (i + 1)).take (k - (i + 1))) x + (if p[k] < x then 1 else 0) := by
  have e : k + 1 - (i + 1) = (k - (i + 1)) + 1 := by omega
  have hl : k - (i + 1) < (p.drop (i + 1)).length := by rw [List.length_drop]; omega
  have hg : (p.drop (i + 1))[k - (i + 1)] = p[k] := by
    rw [List.getElem_drop]
    congr 1
    omega
  rw [e, List.take_succ_eq_append_getElem hl, hg]
  unfold lessN
  rw [List.countP_append]
  congr 1
  by_cases h : p[k] < x
  · rw [if_pos h, List.countP_cons_of_pos (by simpa using h)]; rfl
  · rw [if_neg h, List.countP_cons_of_neg (by simpa using h)]; rfl

set_option maxRecDepth 100000 in
set_option maxHeartbeats 2000000 in
theorem digits_calls {v : Value} {xs : List Int} {R : List HP} {w : World} (hlen : xs.length ≤ 1000) (hrd : Reads R v xs.length 1 (xs.map iv)) (H : Sep w R) :
    Calls Try.prog 32 #[v] w (Gives fun r w' => Sep w' (HP.row 3 1 r xs.length ((digL xs).map iv) :: R)) := by
  obtain ⟨a, cap, rfl⟩ := (hrd w H).form
  have HRD := Lib.hid hrd
  clear hrd
  go_enter Try.func32, Try.ntmps32
  go_wp2_with fail
  go_loopg [3, 4, 5, 6] xs.length (fun gk o i _ _ wr => ∃ t : Nat, Hid (t ≤ xs.length ∧ gk = xs.length - t) ∧ i = .int .i64 (t : Int) ∧ Sep wr (HP.row 3 1 o t (((digL xs).take t).map iv) :: R))
  case atStart => exact ⟨0, Lib.hid ⟨by omega, rfl⟩, rfl, H.row_nil _ _⟩
  case round =>
    clear H
    obtain ⟨t, hq, rfl, Hr⟩ := hrel
    obtain ⟨q1, q2⟩ := hq.out
    clear hq
    obtain ⟨oa, oc, rfl⟩ := Hr.row_form
    by_cases c : t < xs.length
    · have hg := digL_get c
      have HX := Lib.hid (rfl : xs[t] = xs[t])
      have HLS : Hid (∀ k (hk : k < xs.length), t + 1 ≤ k → lessN ((xs.drop (t + 1)).take (k + 1 - (t + 1))) xs[t] = lessN ((xs.drop (t + 1)).take (k - (t + 1))) xs[t] + (if xs[k] < xs[t] then 1 else 0)) := Lib.hid fun k hk h => lessN_take_succ hk h
      obtain ⟨x, hx⟩ : ∃ x, x = xs[t] := ⟨_, rfl⟩
      rw [← hx] at hg HLS
      have HXT := Lib.hid hx
      clear hx HX
      go_wp2_with fail
      go_loopg [5, 6] (xs.length - (t + 1)) (fun gk n k wr => ∃ u : Nat, ∃ d : Nat, Hid (t + 1 ≤ u ∧ u ≤ xs.length ∧ gk = xs.length - u ∧ d ≤ u) ∧ Hid (d = lessN ((xs.drop (t + 1)).take (u - (t + 1))) x) ∧ n = .int .i64 (d : Int) ∧ k = .int .i64 (u : Int) ∧ Sep wr (HP.row 3 1 (.slice oa t oc) t (((digL xs).take t).map iv) :: R))
      case atStart => exact ⟨t + 1, 0, Lib.hid ⟨by omega, by omega, rfl, by omega⟩, Lib.hid (by rw [Nat.sub_self]; rfl), rfl, by go_num, Hr⟩
      case round =>
        clear Hr
        obtain ⟨u, d, hq, hd, rfl, rfl, Hr⟩ := hrel
        obtain ⟨q3, q4, q5, q6⟩ := hq.out
        clear hq
        by_cases cu : u < xs.length
        · have hrw := HRD.out _ Hr.tail
          obtain ⟨g, o, cp, he⟩ := hrw.open (by omega)
          simp only [Value.slice.injEq, true_and] at he
          obtain ⟨rfl, rfl⟩ := he
          have cu1 : wr.cell? ⟨g, o + u, none⟩ = some (.int .i64 xs[u]) := hrw.cell u (iv_get cu)
          have ct1 : wr.cell? ⟨g, o + t, none⟩ = some (.int .i64 x) := by have := hrw.cell t (iv_get c); rwa [← HXT.out] at this
          have hls := HLS.out u cu q3
          rw [← hd.out] at hls
          have HL := Lib.hid hls
          clear hrw hls
          generalize xs[u] = y at cu1 HL
          have H4 := Lib.hid Hr
          clear Hr hd
          by_cases cy : y < x
          · have d1 : decide (y < x) = true := decide_eq_true cy
            have hl2 := HL.out
            rw [if_pos cy] at hl2
            have HL2 := Lib.hid hl2
            clear hl2 HL cy
            go_wp2_with fail
            (refine wp_region_quiet_lit (by kernel_rfl) (by kernel_rfl) ?_; (repeat (first | go_big_quiet_skip | (go_big_quiet_want; go_big_quiet_op; (try go_bits); first | go_big_quiet_on | go_big_quiet_call ((fail))))); refine wpQuiet_nil ?_; intro _ hw'; obtain ⟨nq, hw''⟩ := hw'; subst hw'')
            have H5 := H4.out.drewN nq
            go_wp2_with fail
            go_roundg (xs.length - (u + 1))
            case rel => exact ⟨u + 1, d + 1, Lib.hid ⟨by omega, by omega, rfl, by omega⟩, Lib.hid HL2.out.symm, by go_num, by go_num, H5⟩
            case measure => omega
          · have d1 : decide (y < x) = false := decide_eq_false cy
            have hl2 := HL.out
            rw [if_neg cy, Nat.add_zero] at hl2
            have HL2 := Lib.hid hl2
            clear hl2 HL cy
            go_wp2_with fail
            (refine wp_region_quiet_lit (by kernel_rfl) (by kernel_rfl) ?_; (repeat (first | go_big_quiet_skip | (go_big_quiet_want; go_big_quiet_op; (try go_bits); first | go_big_quiet_on | go_big_quiet_call ((fail))))); refine wpQuiet_nil ?_; intro _ hw'; obtain ⟨nq, hw''⟩ := hw'; subst hw'')
            have H5 := H4.out.drewN nq
            go_wp2_with fail
            go_roundg (xs.length - (u + 1))
            case rel => exact ⟨u + 1, d, Lib.hid ⟨by omega, by omega, rfl, by omega⟩, Lib.hid HL2.out.symm, rfl, by go_num, H5⟩
            case measure => omega
        · have hdd : d = lessN (xs.drop (t + 1)) x := by
            have := hd.out
            rwa [List.take_of_length_le (by rw [List.length_drop]; omega)] at this
          rw [← hdd] at hg
          have hal : t < (digL xs).length := by rw [digL_length]; exact c
          have hm : ((digL xs).take t).map iv ++ [.int .i64 (d : Int)] = ((digL xs).take (t + 1)).map iv := by
            have e : (digL xs)[t] = (d : Int) := by rw [List.getElem?_eq_getElem hal] at hg; simpa using hg
            rw [List.take_succ_eq_append_getElem hal, List.map_append, e]; rfl
          have HM := Lib.hid hm
          have h63 : t + 1 ≤ maxLen := by unfold maxLen; omega
          have hby : (t + 1) * 8 ≤ 140737488355328 := by omega
          clear hm hg hal hdd hd
          go_wp2_with ((at_builtin; go_must (refine wpList_append_one rfl (.tmp 32) (.tmp 34) 22 rfl 3 (.int .i64 0) 8 Try.underlying22 info_iv rfl (.slice oa t oc) t _ (.int .i64 (d : Int)) rfl rfl Hr rfl h63 hby ?_); intro g7 c7 w7 H7; rw [HM.out] at H7))
          go_roundg (xs.length - (t + 1))
          case rel => exact ⟨t + 1, Lib.hid ⟨by omega, rfl⟩, by go_num, H7⟩
          case measure => omega
    · obtain rfl : t = xs.length := by omega
      rw [List.take_of_length_le (by rw [digL_length]; omega)] at Hr
      go_wp2_with fail
      go_ret
      exact ⟨_, rfl, Hr⟩

end Go.Proofs.Yticeolbagfaofaa
