/- coder: bytes.Clone, up. -/
import Derived.Test.YtglinpclcmmnbaaCod3
namespace Go.Proofs.Ytglinpclcmmnbaa
open Go.RowKit Go.Shelf

theorem rev_ind {α : Type} {P : List α → Prop} (h0 : P []) (h1 : ∀ l d, P l → P (l ++ [d])) (l : List α) : P l := by
  have h : ∀ l : List α, P l.reverse := fun l => by
    induction l with
    | nil => exact h0
    | cons d l ih => rw [List.reverse_cons]; exact h1 _ _ ih
  have h2 := h l.reverse
  rwa [List.reverse_reverse] at h2
theorem bv_one (l : List Nat) : ∀ u ∈ l.map bv, u.oneCell' = true := by
  intro u hu; simp only [List.mem_map] at hu; obtain ⟨d, -, rfl⟩ := hu; rfl
theorem or_byte {V d : Nat} (hV : V < 1099511627776) (hd : d < 256) : bits BinOp.or IntKind.u64 ((V : Int) * 256) (d : Int) = ((V * 256 + d : Nat) : Int) := by
  have e3 : (V : Int) * 256 = ((V * 256 : Nat) : Int) := by simp
  rw [e3, bits_or_u64_nat _ _ (by omega) (by omega)]
  have h := (Nat.two_pow_add_eq_or_of_lt (i := 8) (b := d) (by omega) V).symm
  rw [show (2 : Nat) ^ 8 = 256 by rfl, Nat.mul_comm] at h
  rw [h]

set_option maxRecDepth 100000 in
set_option maxHeartbeats 1000000 in
theorem bclone_calls {v : Value} {l : List Nat} {R : List HP} {w : World} (hl : l.length ≤ 1000000) (hrd : Reads R v l.length 1 (l.map bv)) (H : Sep w R) :
    Calls Try.prog 59 #[v] w (Gives fun r w' => Sep w' (HP.row 5 1 r l.length (l.map bv) :: R)) := by
  rcases (hrd w H).2 with ⟨rfl, h0⟩ | ⟨ad, cap, rfl, hh⟩
  · have hx : l = [] := List.eq_nil_of_length_eq_zero h0
    subst hx
    have hnil := fun w1 => Lib.run_eql_slice_nil (P := Try.prog) w1 61 5 none 0 0 0 0 rfl
    go_enter Try.func59, Try.ntmps59
    go_wp2_with fail
    go_ret
    exact ⟨_, rfl, H.row_nil _ 1⟩
  · have h63 : 0 + l.length ≤ maxLen := by unfold maxLen; omega
    have hby : (0 + l.length) * 1 ≤ 140737488355328 := by omega
    have hnil := fun w1 => Lib.run_eql_slice_nil (P := Try.prog) w1 61 5 (some ad) l.length cap 0 0 rfl
    have HE : Sep (w.alloc (.cells #[] 5)) (HP.row 5 1 (.slice (some ⟨w.heap.size, 0, none⟩) 0 0) 0 [] :: R) :=
      Sep.row_shut (H.alloc #[] 5) (Nat.le_refl _) (by unfold maxLen; omega) rfl rfl
    have hrd1 := hrd _ HE.tail
    go_enter Try.func59, Try.ntmps59
    go_wp2_with ((at_builtin; go_must (refine wpList_append_src rfl (.tmp 5) (.tmp 6) 61 rfl 5 (.int .u8 0) 1 1 Try.underlying61 info_byte rfl (by decide) (.slice (some ⟨w.heap.size, 0, none⟩) 0 0) 0 [] rfl HE (.slice (some ad) l.length cap) _ _ rfl hrd1 (bv_one _) h63 hby ?_); intro v3 w3 H3; rw [Nat.zero_add, List.nil_append] at H3; obtain ⟨va, vc, hv3⟩ := H3.row_form; subst hv3))
    go_ret
    exact ⟨_, rfl, H3⟩

/-- What 'up' tells. -/
def UpOk (r : List Nat) (R m : Nat) (b : Bool) : Prop := (b = true ↔ (valD r = 0 ∨ 256 ^ r.length - valD r < R)) ∧ (b = true → (0 < m ↔ valD r ≠ 0))
def UpPost (r : List Nat) (R : Nat) (e : Ending) : Prop := ∃ m b, e = .returned (.tuple #[.int .u64 ((m : Nat) : Int), .bool b]) ∧ UpOk r R m b
theorem valD_take_succ {l : List Nat} {i : Nat} (h : i < l.length) : valD (l.take (i + 1)) = valD (l.take i) * 256 + l.getD i 0 := by
  rw [List.take_succ_eq_append_getElem h, valD_snoc]
  simp [List.getD, List.getElem?_eq_getElem h]
theorem valD_zero_iff (l : List Nat) : valD l = 0 ↔ ∀ d ∈ l, d = 0 := by
  induction l using rev_ind with
  | h0 => simp [valD]
  | h1 l d ih =>
    rw [valD_snoc]
    constructor
    · intro h x hx
      simp only [List.mem_append, List.mem_singleton] at hx
      rcases hx with hx | rfl
      · exact ih.1 (by omega) x hx
      · omega
    · intro h
      have h1 := ih.2 (fun x hx => h x (by simp [hx]))
      have h2 := h d (by simp)
      omega
theorem valD_append (a b : List Nat) : valD (a ++ b) = valD a * 256 ^ b.length + valD b := by
  induction b using rev_ind with
  | h0 => simp [valD]
  | h1 l d ih => rw [← List.append_assoc, valD_snoc, ih, valD_snoc, List.length_append, List.length_singleton, Nat.pow_succ, ← Nat.mul_assoc]; omega
theorem valD_255 (l : List Nat) : (∀ d ∈ l, d < 256) → ((∀ d ∈ l, d = 255) ↔ valD l + 1 = 256 ^ l.length) := by
  induction l using rev_ind with
  | h0 => simp [valD]
  | h1 l d ih =>
    intro hl
    have h1 := ih (fun x hx => hl x (by simp [hx]))
    have h2 := valD_lt l (fun x hx => hl x (by simp [hx]))
    have h3 := hl d (by simp)
    rw [valD_snoc, List.length_append, List.length_singleton, Nat.pow_succ]
    constructor
    · intro h
      have h4 := h1.1 (fun x hx => h x (by simp [hx]))
      have h5 := h d (by simp)
      omega
    · intro h x hx
      simp only [List.mem_append, List.mem_singleton] at hx
      rcases hx with hx | rfl
      · exact h1.2 (by omega) x hx
      · omega

set_option maxRecDepth 100000 in
set_option maxHeartbeats 4000000 in
theorem up_calls {g cap n R : Nat} {l : List Nat} {w : World} (hl : ∀ d ∈ l, d < 256) (hn : n ≤ l.length) (hcap : l.length ≤ cap) (hlen : l.length ≤ 1000000) (hR : R ≤ 4294967296)
    (hrd : RdS w (.slice (some ⟨g, 0, none⟩) l.length cap) l.length 1 (l.map bv)) :
    Calls Try.prog 60 #[.slice (some ⟨g, 0, none⟩) l.length cap, .int .i64 (n : Int), .int .u64 (R : Int)] w fun e w' => w = w' ∧ UpPost (l.drop n) R e := by
  obtain ⟨r, hr⟩ : ∃ r, r = l.drop n := ⟨_, rfl⟩
  obtain ⟨T, hT⟩ : ∃ T, T = r.length := ⟨_, rfl⟩
  have hlT : l.length = n + T := by rw [hT, hr, List.length_drop]; omega
  have hrl : ∀ d ∈ r, d < 256 := fun d hd => hl d (by rw [hr] at hd; exact List.mem_of_mem_drop hd)
  have HC : Hid (∀ i, i < T → w.cell? ⟨g, n + i, none⟩ = some (.int .u8 ((r.getD i 0 : Nat) : Int))) := Lib.hid fun i hi => by
    have h1 : (l.map bv)[n + i]? = some (bv (r.getD i 0)) := by
      rw [hr, List.getElem?_map, List.getElem?_eq_getElem (by omega)]
      simp only [Option.map_some, List.getD, List.getElem?_drop]
      rw [List.getElem?_eq_getElem (by omega)]
      rfl
    have := hrd.cell (n + i) h1
    rw [Nat.zero_add] at this
    exact this
  have HD : Hid (∀ i, i < T → r.getD i 0 < 256) := Lib.hid fun i hi => by
    rw [List.getD, List.getElem?_eq_getElem (by omega)]
    exact hrl _ (List.getElem_mem _)
  have HS : Hid (∀ i, i < T → valD (r.take (i + 1)) = valD (r.take i) * 256 + r.getD i 0) := Lib.hid fun i hi => valD_take_succ (by omega)
  have HL := Lib.hid hrl
  have HT := Lib.hid hT
  rw [← hr]
  clear hr hT hrd hl hrl
  rw [hlT] at hcap hlen hn ⊢
  clear hlT
  have hsub : ((n + T : Nat) : Int) - (n : Int) = (T : Int) := by omega
  have hcap2 : ((n + T : Nat) : Int) ≤ (cap : Int) := by omega
  have hnn : (n : Int) ≤ ((n + T : Nat) : Int) := by omega
  by_cases hT0 : T = 0
  · subst hT0
    have hv0 : valD r = 0 := by rw [List.length_eq_zero_iff.1 HT.out.symm]; rfl
    have HU : Hid (UpOk r R 0 true) := Lib.hid ⟨⟨fun _ => .inl hv0, fun _ => rfl⟩, fun _ => ⟨fun h => absurd h (by decide), fun h => absurd hv0 h⟩⟩
    go_enter Try.func60, Try.ntmps60
    go_wp2_with fail
    all_goals (
      go_loopg [9, 11, 24] 1 (fun _ z _ j wr => wr = w ∧ z = .bool true ∧ j = .int .i64 0)
      case atStart => exact ⟨rfl, rfl, rfl⟩
      case round =>
        obtain ⟨rfl, rfl, rfl⟩ := hrel
        go_wp2_with fail
        go_ret2
        exact ⟨rfl, 0, true, rfl, HU.out⟩)
  · have hne : ¬ cap = n := by omega
    have hne2 : n < cap := by omega
    have hne3 : ¬ n = cap := by omega
    have hne4 : ¬ cap - n = 0 := by omega
    go_enter Try.func60, Try.ntmps60
    go_wp2_with fail
    go_loopg [9, 11, 24] T (fun gk z _ j wr => wr = w ∧ ∃ i : Nat, Hid (i ≤ T ∧ gk = T - i) ∧ z = .bool (decide (valD (r.take i) = 0)) ∧ j = .int .i64 (i : Int))
    case atStart => exact ⟨rfl, 0, Lib.hid ⟨by omega, rfl⟩, rfl, rfl⟩
    case round =>
      obtain ⟨rfl, i, hq, rfl, rfl⟩ := hrel
      obtain ⟨q1, q2⟩ := hq.out
      clear hq
      by_cases hi : i < T
      · have hi2 : (i : Int) < (T : Int) := by omega
        have c1 := HC.out i hi
        have hs := HS.out i hi
        have hdb := HD.out i hi
        generalize valD (r.take i) = V at *
        generalize r.getD i 0 = d at *
        have hz : decide (V * 256 + d = 0) = (decide (V = 0) && decide (d = 0)) := by rw [← Bool.decide_and]; exact decide_eq_decide.2 (by omega)
        have HSS := Lib.hid hs
        have HZ := Lib.hid hz
        clear hs hz
        by_cases hV : V = 0
        · subst hV
          by_cases hd : d = 0
          · subst hd
            go_wp2_with fail
            go_roundg (T - (i + 1))
            case rel => exact ⟨rfl, i + 1, Lib.hid ⟨by omega, rfl⟩, by rw [HSS.out]; rfl, by go_num⟩
            case measure => omega
          · have hd0 : ((d : Int) == 0) = false := by simp; omega
            have hd1 : ¬ (d : Int) = 0 := by omega
            go_wp2_with fail
            go_roundg (T - (i + 1))
            case rel => exact ⟨rfl, i + 1, Lib.hid ⟨by omega, rfl⟩, by rw [HSS.out, HZ.out, decide_eq_false hd]; rfl, by go_num⟩
            case measure => omega
        · have hdV : decide (V = 0) = false := decide_eq_false hV
          rw [hdV]
          go_wp2_with fail
          go_roundg (T - (i + 1))
          case rel => exact ⟨rfl, i + 1, Lib.hid ⟨by omega, rfl⟩, by rw [HSS.out, HZ.out, decide_eq_false hV]; rfl, by go_num⟩
          case measure => omega
      · obtain rfl : i = T := by omega
        have htk : r.take i = r := by rw [HT.out]; exact List.take_length
        rw [htk]
        by_cases hv0 : valD r = 0
        · have HU : Hid (UpOk r R 0 true) := Lib.hid ⟨⟨fun _ => .inl hv0, fun _ => rfl⟩, fun _ => ⟨fun h => absurd h (by decide), fun h => absurd hv0 h⟩⟩
          rw [decide_eq_true hv0]
          go_wp2_with fail
          go_ret2
          exact ⟨rfl, 0, true, rfl, HU.out⟩
        · rw [decide_eq_false hv0]
          have HV0 := Lib.hid hv0
          clear hv0 htk
          by_cases hT4 : i ≤ 4
          · have hT5 : ¬ (4 : Int) < (i : Int) := by omega
            have hvl := valD_lt r HL.out
            rw [← HT.out] at hvl
            have HV2 := Lib.hid hvl
            have HB2 : Hid (∀ t, t ≤ i → valD (r.take t) < 1099511627776) := Lib.hid fun t ht => by
              have h1 := valD_lt (r.take t) (fun d hd => HL.out d (List.mem_of_mem_take hd))
              rw [List.length_take, Nat.min_eq_left (by rw [← HT.out]; exact ht)] at h1
              have h2 : 256 ^ t ≤ 256 ^ 4 := Nat.pow_le_pow_right (by decide) (by omega)
              have h3 : (256 : Nat) ^ 4 < 1099511627776 := by decide
              omega
            have HU2 : Hid (UpOk r R (256 ^ i - valD r) (decide (256 ^ i - valD r < R))) := Lib.hid (by
              have h0 := HV0.out
              refine ⟨?_, fun _ => ?_⟩
              · rw [← HT.out, decide_eq_true_iff]
                constructor
                · exact .inr
                · rintro (h | h)
                  · exact absurd h h0
                  · exact h
              · omega)
            have HC2 := HC
            have HS2 := HS
            have HD2 := HD
            have HT2 := HT
            clear HC HS HD hvl
            go_wp2_with fail
            go_loopg [15, 17, 59] i (fun gk hv _ j wq => wq = wr ∧ ∃ t : Nat, Hid (t ≤ i ∧ gk = i - t) ∧ hv = .int .u64 (valD (r.take t) : Int) ∧ j = .int .i64 (t : Int))
            case atStart => exact ⟨rfl, 0, Lib.hid ⟨by omega, rfl⟩, rfl, rfl⟩
            case round =>
              obtain ⟨rfl, t, hq, rfl, rfl⟩ := hrel
              obtain ⟨q1, q2⟩ := hq.out
              clear hq
              by_cases ht : t < i
              · have ht2 : (t : Int) < (i : Int) := by omega
                have c1 := HC2.out t ht
                have hs := HS2.out t ht
                have hvb := HB2.out t (Nat.le_of_lt ht)
                have hdb := HD2.out t ht
                have hb := or_byte hvb hdb
                generalize valD (r.take t) = V at *
                generalize r.getD t 0 = d at *
                have HSS := Lib.hid hs
                clear hs
                go_wp2_with fail
                go_roundg (i - (t + 1))
                case rel => exact ⟨rfl, t + 1, Lib.hid ⟨by omega, rfl⟩, by rw [HSS.out]; go_num, by go_num⟩
                case measure => omega
              · have htt : t = i := by omega
                have htk : r.take i = r := List.take_of_length_le (by rw [← HT2.out]; omega)
                subst htt
                have hvb := HV2.out
                rw [htk]
                have HUU := HU2
                clear htk HC2 HS2 HB2 HD2 HU2
                rcases (show t = 1 ∨ t = 2 ∨ t = 3 ∨ t = 4 by omega) with rfl | rfl | rfl | rfl
                · generalize valD r = V at *
                  have hvb2 : V < 256 := hvb
                  have HU2 : UpOk r R (256 - V) (decide (256 - V < R)) := HUU.out
                  by_cases hb : 256 - V < R
                  · rw [decide_eq_true hb] at HU2
                    have HU3 := Lib.hid HU2
                    have hb2 : (256 : Int) - (V : Int) < (R : Int) := by omega
                    have hcast : ((256 - V : Nat) : Int) = (256 : Int) - (V : Int) := by omega
                    have HCC := Lib.hid hcast
                    clear hcast HU2 HUU HV2
                    go_wp2_with fail
                    go_ret2
                    exact ⟨rfl, 256 - V, true, by rw [HCC.out]; rfl, HU3.out⟩
                  · rw [decide_eq_false hb] at HU2
                    have HU3 := Lib.hid HU2
                    have hb2 : ¬ (256 : Int) - (V : Int) < (R : Int) := by omega
                    have hcast : ((256 - V : Nat) : Int) = (256 : Int) - (V : Int) := by omega
                    have HCC := Lib.hid hcast
                    clear hcast HU2 HUU HV2
                    go_wp2_with fail
                    go_ret2
                    exact ⟨rfl, 256 - V, false, by rw [HCC.out]; rfl, HU3.out⟩
                · generalize valD r = V at *
                  have hvb2 : V < 65536 := hvb
                  have HU2 : UpOk r R (65536 - V) (decide (65536 - V < R)) := HUU.out
                  by_cases hb : 65536 - V < R
                  · rw [decide_eq_true hb] at HU2
                    have HU3 := Lib.hid HU2
                    have hb2 : (65536 : Int) - (V : Int) < (R : Int) := by omega
                    have hcast : ((65536 - V : Nat) : Int) = (65536 : Int) - (V : Int) := by omega
                    have HCC := Lib.hid hcast
                    clear hcast HU2 HUU HV2
                    go_wp2_with fail
                    go_ret2
                    exact ⟨rfl, 65536 - V, true, by rw [HCC.out]; rfl, HU3.out⟩
                  · rw [decide_eq_false hb] at HU2
                    have HU3 := Lib.hid HU2
                    have hb2 : ¬ (65536 : Int) - (V : Int) < (R : Int) := by omega
                    have hcast : ((65536 - V : Nat) : Int) = (65536 : Int) - (V : Int) := by omega
                    have HCC := Lib.hid hcast
                    clear hcast HU2 HUU HV2
                    go_wp2_with fail
                    go_ret2
                    exact ⟨rfl, 65536 - V, false, by rw [HCC.out]; rfl, HU3.out⟩
                · generalize valD r = V at *
                  have hvb2 : V < 16777216 := hvb
                  have HU2 : UpOk r R (16777216 - V) (decide (16777216 - V < R)) := HUU.out
                  by_cases hb : 16777216 - V < R
                  · rw [decide_eq_true hb] at HU2
                    have HU3 := Lib.hid HU2
                    have hb2 : (16777216 : Int) - (V : Int) < (R : Int) := by omega
                    have hcast : ((16777216 - V : Nat) : Int) = (16777216 : Int) - (V : Int) := by omega
                    have HCC := Lib.hid hcast
                    clear hcast HU2 HUU HV2
                    go_wp2_with fail
                    go_ret2
                    exact ⟨rfl, 16777216 - V, true, by rw [HCC.out]; rfl, HU3.out⟩
                  · rw [decide_eq_false hb] at HU2
                    have HU3 := Lib.hid HU2
                    have hb2 : ¬ (16777216 : Int) - (V : Int) < (R : Int) := by omega
                    have hcast : ((16777216 - V : Nat) : Int) = (16777216 : Int) - (V : Int) := by omega
                    have HCC := Lib.hid hcast
                    clear hcast HU2 HUU HV2
                    go_wp2_with fail
                    go_ret2
                    exact ⟨rfl, 16777216 - V, false, by rw [HCC.out]; rfl, HU3.out⟩
                · generalize valD r = V at *
                  have hvb2 : V < 4294967296 := hvb
                  have HU2 : UpOk r R (4294967296 - V) (decide (4294967296 - V < R)) := HUU.out
                  by_cases hb : 4294967296 - V < R
                  · rw [decide_eq_true hb] at HU2
                    have HU3 := Lib.hid HU2
                    have hb2 : (4294967296 : Int) - (V : Int) < (R : Int) := by omega
                    have hcast : ((4294967296 - V : Nat) : Int) = (4294967296 : Int) - (V : Int) := by omega
                    have HCC := Lib.hid hcast
                    clear hcast HU2 HUU HV2
                    go_wp2_with fail
                    go_ret2
                    exact ⟨rfl, 4294967296 - V, true, by rw [HCC.out]; rfl, HU3.out⟩
                  · rw [decide_eq_false hb] at HU2
                    have HU3 := Lib.hid HU2
                    have hb2 : ¬ (4294967296 : Int) - (V : Int) < (R : Int) := by omega
                    have hcast : ((4294967296 - V : Nat) : Int) = (4294967296 : Int) - (V : Int) := by omega
                    have HCC := Lib.hid hcast
                    clear hcast HU2 HUU HV2
                    go_wp2_with fail
                    go_ret2
                    exact ⟨rfl, 4294967296 - V, false, by rw [HCC.out]; rfl, HU3.out⟩
          · have hT5 : (4 : Int) < (i : Int) := by omega
            obtain ⟨m, rfl⟩ : ∃ m, i = m + 4 := ⟨i - 4, by omega⟩
            obtain ⟨r2, hr2⟩ : ∃ r2, r2 = r.drop m := ⟨_, rfl⟩
            obtain ⟨r1, hr1⟩ : ∃ r1, r1 = r.take m := ⟨_, rfl⟩
            have hrr : r = r1 ++ r2 := by rw [hr1, hr2, List.take_append_drop]
            have hl1 : r1.length = m := by rw [hr1, List.length_take, ← HT.out]; omega
            have hl2 : 4 = r2.length := by rw [hr2, List.length_drop, ← HT.out]; omega
            have hb1 : ∀ d ∈ r1, d < 256 := fun d hd => HL.out d (by rw [hrr]; simp [hd])
            have hb2 : ∀ d ∈ r2, d < 256 := fun d hd => HL.out d (by rw [hrr]; simp [hd])
            have hg1 : ∀ t, t < m → r.getD t 0 = r1.getD t 0 := fun t ht => by
              rw [hrr, List.getD, List.getD, List.getElem?_append_left (by omega)]
            have hg2 : ∀ t, t < 4 → r.getD (m + t) 0 = r2.getD t 0 := fun t ht => by
              rw [hrr, List.getD, List.getD, List.getElem?_append_right (by omega), hl1, Nat.add_sub_cancel_left]
            have hva : valD r = valD r1 * 4294967296 + valD r2 := by rw [hrr, valD_append, ← hl2]
            have hv1 := valD_lt r1 hb1
            have hv2 := valD_lt r2 hb2
            have h255 := valD_255 r1 hb1
            rw [hl1] at hv1 h255
            rw [← hl2] at hv2
            have hpm : 256 ^ (m + 4) = 256 ^ m * 4294967296 := by rw [Nat.pow_add]
            have HNO : Hid (¬ (∀ d ∈ r1, d = 255) → UpOk r R 0 false) := Lib.hid (fun hno => by
              rw [h255] at hno
              refine ⟨⟨fun h => (by cases h), fun h => ?_⟩, fun h => (by cases h)⟩
              exfalso
              rcases h with h | h
              · exact HV0.out h
              · rw [← HT.out, hpm, hva] at h
                omega)
            have HU1 : Hid ((∀ d ∈ r1, d = 255) → UpOk r R (4294967296 - valD r2) (decide (4294967296 - valD r2 < R))) := Lib.hid (fun hyes => by
              rw [h255] at hyes
              have e : 256 ^ (m + 4) - valD r = 4294967296 - valD r2 := by rw [hpm, hva]; omega
              refine ⟨?_, fun _ => ?_⟩
              · rw [← HT.out, decide_eq_true_iff, e]
                constructor
                · exact .inr
                · rintro (h | h)
                  · exact absurd h HV0.out
                  · exact h
              · have := HV0.out
                constructor
                · intro _; exact this
                · intro _; omega)
            have HV2 : Hid (valD r2 < 4294967296) := Lib.hid hv2
            have HB2 : Hid (∀ t, t ≤ 4 → valD (r2.take t) < 1099511627776) := Lib.hid fun t ht => by
              have h1 := valD_lt (r2.take t) (fun d hd => hb2 d (List.mem_of_mem_take hd))
              rw [List.length_take, Nat.min_eq_left (by rw [← hl2]; exact ht)] at h1
              have h2 : 256 ^ t ≤ 256 ^ 4 := Nat.pow_le_pow_right (by decide) (by omega)
              have h3 : (256 : Nat) ^ 4 < 1099511627776 := by decide
              omega
            have HC2 : Hid (∀ t, t < 4 → wr.cell? ⟨g, n + m + t, none⟩ = some (.int .u8 ((r2.getD t 0 : Nat) : Int))) := Lib.hid fun t ht => by
              have := HC.out (m + t) (by omega)
              rw [hg2 t ht, ← Nat.add_assoc] at this
              exact this
            have HS2 : Hid (∀ t, t < 4 → valD (r2.take (t + 1)) = valD (r2.take t) * 256 + r2.getD t 0) := Lib.hid fun t ht => valD_take_succ (by omega)
            have HD2 : Hid (∀ t, t < 4 → r2.getD t 0 < 256) := Lib.hid fun t ht => by
              have := HD.out (m + t) (by omega)
              rw [hg2 t ht] at this
              exact this
            have HC1 : Hid (∀ t, t < m → wr.cell? ⟨g, n + t, none⟩ = some (.int .u8 ((r1.getD t 0 : Nat) : Int))) := Lib.hid fun t ht => by
              have := HC.out t (by omega)
              rw [hg1 t ht] at this
              exact this
            have HE1 : Hid (∀ t, t < m → r1.getD t 0 ∈ r1 ∧ (∀ d ∈ r1.take (t + 1), d = 255 ∨ d ∈ r1.take t ∨ d = r1.getD t 0)) := Lib.hid fun t ht => by
              have e : r1.getD t 0 = r1[t]'(by omega) := by rw [List.getD, List.getElem?_eq_getElem (by omega)]; rfl
              refine ⟨by rw [e]; exact List.getElem_mem _, fun d hd => ?_⟩
              rw [List.take_succ_eq_append_getElem (by omega), List.mem_append, List.mem_singleton, ← e] at hd
              exact .inr hd
            have HL1 := Lib.hid hl1
            have HT2 := Lib.hid hl2
            clear hr1 hr2 hrr hl1 hl2 hb1 hb2 hg1 hg2 hva hv1 hv2 h255 hpm HC HS HD
            have e1 : ((m + 4 : Nat) : Int) - 4 = (m : Int) := by omega
            have e2 : m + 4 - m = 4 := by omega
            have e3 : ¬ cap - n = m := by omega
            have e4 : m < cap - n := by omega
            go_wp2_with fail
            go_loopg [14, 45] m (fun gk _ j wr' => wr' = wr ∧ ∃ t : Nat, Hid (t ≤ m ∧ gk = m - t ∧ ∀ d ∈ r1.take t, d = 255) ∧ j = .int .i64 (t : Int))
            case atStart => exact ⟨rfl, 0, Lib.hid ⟨by omega, rfl, by simp⟩, rfl⟩
            case round =>
              obtain ⟨rfl, t, hq, rfl⟩ := hrel
              obtain ⟨q1, q2, q3⟩ := hq.out
              clear hq
              have HQ := Lib.hid q3
              clear q3
              by_cases ht : t < m
              · have ht2 : (t : Int) < (m : Int) := by omega
                have c1 := HC1.out t ht
                have hE := HE1.out t ht
                generalize r1.getD t 0 = d at *
                by_cases hd : d = 255
                · subst hd
                  have HQ2 : Hid (∀ d ∈ r1.take (t + 1), d = 255) := Lib.hid fun d hd => by
                    rcases hE.2 d hd with h | h | h
                    · exact h
                    · exact HQ.out d h
                    · exact h
                  clear hE
                  go_wp2_with fail
                  go_roundg (m - (t + 1))
                  case rel => exact ⟨rfl, t + 1, Lib.hid ⟨by omega, rfl, HQ2.out⟩, by go_num⟩
                  case measure => omega
                · have hd0 : ((d : Int) != 255) = true := by simp; omega
                  have hd1 : ¬ (d : Int) = 255 := by omega
                  have HN2 := Lib.hid (HNO.out fun h => hd (h d hE.1))
                  clear hE
                  go_wp2_with fail
                  refine bodyPost_ret (results_tmp2 rfl _ _ _) rfl ?_
                  exact ⟨rfl, 0, false, rfl, HN2.out⟩
              · have htt : t = m := by omega
                subst htt
                have HU2 := Lib.hid (HU1.out (by
                  have := HQ.out
                  rw [← HL1.out, List.take_length] at this
                  exact this))
                clear HQ HC1 HE1 HU1 HNO
                go_wp2_with fail
                go_loopg [15, 17, 59] 4 (fun gk hv _ j wq => wq = wr ∧ ∃ t : Nat, Hid (t ≤ 4 ∧ gk = 4 - t) ∧ hv = .int .u64 (valD (r2.take t) : Int) ∧ j = .int .i64 (t : Int))
                case atStart => exact ⟨rfl, 0, Lib.hid ⟨by omega, rfl⟩, rfl, rfl⟩
                case round =>
                  obtain ⟨rfl, t, hq, rfl, rfl⟩ := hrel
                  obtain ⟨q1, q2⟩ := hq.out
                  clear hq
                  by_cases ht : t < 4
                  · have ht2 : (t : Int) < (4 : Int) := by omega
                    have c1 := HC2.out t ht
                    have hs := HS2.out t ht
                    have hvb := HB2.out t (Nat.le_of_lt ht)
                    have hdb := HD2.out t ht
                    have hb := or_byte hvb hdb
                    generalize valD (r2.take t) = V at *
                    generalize r2.getD t 0 = d at *
                    have HSS := Lib.hid hs
                    clear hs
                    go_wp2_with fail
                    go_roundg (4 - (t + 1))
                    case rel => exact ⟨rfl, t + 1, Lib.hid ⟨by omega, rfl⟩, by rw [HSS.out]; go_num, by go_num⟩
                    case measure => omega
                  · have htt : t = 4 := by omega
                    have htk : r2.take 4 = r2 := List.take_of_length_le (by rw [← HT2.out]; omega)
                    subst htt
                    have hvb := HV2.out
                    rw [htk]
                    have HUU := HU2
                    clear htk HC2 HS2 HB2 HD2 HU2
                    generalize valD r2 = V at *
                    have hvb2 : V < 4294967296 := hvb
                    have HU2 : UpOk r R (4294967296 - V) (decide (4294967296 - V < R)) := HUU.out
                    by_cases hb : 4294967296 - V < R
                    · rw [decide_eq_true hb] at HU2
                      have HU3 := Lib.hid HU2
                      have hb2 : (4294967296 : Int) - (V : Int) < (R : Int) := by omega
                      have hcast : ((4294967296 - V : Nat) : Int) = (4294967296 : Int) - (V : Int) := by omega
                      have HCC := Lib.hid hcast
                      clear hcast HU2 HUU HV2
                      go_wp2_with fail
                      go_ret2
                      exact ⟨rfl, 4294967296 - V, true, by rw [HCC.out]; rfl, HU3.out⟩
                    · rw [decide_eq_false hb] at HU2
                      have HU3 := Lib.hid HU2
                      have hb2 : ¬ (4294967296 : Int) - (V : Int) < (R : Int) := by omega
                      have hcast : ((4294967296 - V : Nat) : Int) = (4294967296 : Int) - (V : Int) := by omega
                      have HCC := Lib.hid hcast
                      clear hcast HU2 HUU HV2
                      go_wp2_with fail
                      go_ret2
                      exact ⟨rfl, 4294967296 - V, false, by rw [HCC.out]; rfl, HU3.out⟩

end Go.Proofs.Ytglinpclcmmnbaa
