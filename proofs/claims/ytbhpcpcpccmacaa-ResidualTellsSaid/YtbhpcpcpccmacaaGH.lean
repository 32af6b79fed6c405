/- coder: bytes.Clone, up. coder: Finish. coder: Same, Sum, Right, made; what Encode refuses. -/
import Derived.Test.YtbhpcpcpccmacaaGG
import Derived.Deep.RegionLaw

namespace Go.Proofs.Ytbhpcpcpccmacaa
open Go.RowKit Go.Shelf

theorem rev_ind {α : Type} {P : List α → Prop} (h0 : P []) (h1 : ∀ l d, P l → P (l ++ [d])) (l : List α) : P l := by
  have h : ∀ l : List α, P l.reverse := fun l => by
    induction l with
    | nil => exact h0
    | cons d l ih => rw [List.reverse_cons]; exact h1 _ _ ih
  have h2 := h l.reverse
  rwa [List.reverse_reverse] at h2
theorem bv_one (l : List Nat) : ∀ u ∈ l.map bv, u.oneCell' = true := by
  intro u hu; simp only [List.mem_map] at hu; obtain ⟨d, -, rfl⟩ := hu; rfl
theorem or_byte {V d : Nat} (hV : V < 1099511627776) (hd : d < 256) : bits BinOp.or IntKind.u64 ((V : Int) * 256) (d : Int) = ((V * 256 + d : Nat) : Int) := by
  have e3 : (V : Int) * 256 = ((V * 256 : Nat) : Int) := by simp
  rw [e3, bits_or_u64_nat _ _ (by omega) (by omega)]
  have h := (Nat.two_pow_add_eq_or_of_lt (i := 8) (b := d) (by omega) V).symm
  rw [show (2 : Nat) ^ 8 = 256 by rfl, Nat.mul_comm] at h
  rw [h]

set_option maxRecDepth 100000 in
set_option maxHeartbeats 1000000 in
theorem bclone_calls {v : Value} {l : List Nat} {R : List HP} {w : World} (hl : l.length ≤ 1000000) (hrd : Reads R v l.length 1 (l.map bv)) (H : Sep w R) :
    Calls Try.prog 86 #[v] w (Gives fun r w' => Sep w' (HP.row 5 1 r l.length (l.map bv) :: R)) := by
  rcases (hrd w H).2 with ⟨rfl, h0⟩ | ⟨ad, cap, rfl, hh⟩
  · have hx : l = [] := List.eq_nil_of_length_eq_zero h0
    subst hx
    have hnil := fun w1 => Lib.run_eql_slice_nil (P := Try.prog) w1 33 5 none 0 0 0 0 rfl
    go_enter Try.func86, Try.ntmps86
    go_wp2_with fail
    go_ret
    exact ⟨_, rfl, H.row_nil _ 1⟩
  · have h63 : 0 + l.length ≤ maxLen := by unfold maxLen; omega
    have hby : (0 + l.length) * 1 ≤ 140737488355328 := by omega
    have hnil := fun w1 => Lib.run_eql_slice_nil (P := Try.prog) w1 33 5 (some ad) l.length cap 0 0 rfl
    have HE : Sep (w.alloc (.cells #[] 5)) (HP.row 5 1 (.slice (some ⟨w.heap.size, 0, none⟩) 0 0) 0 [] :: R) :=
      Sep.row_shut (H.alloc #[] 5) (Nat.le_refl _) (by unfold maxLen; omega) rfl rfl
    have hrd1 := hrd _ HE.tail
    go_enter Try.func86, Try.ntmps86
    go_wp2_with ((at_builtin; go_must (refine wpList_append_src rfl (.tmp 5) (.tmp 6) 33 rfl 5 (.int .u8 0) 1 1 Try.underlying33 info_byte rfl (by decide) (.slice (some ⟨w.heap.size, 0, none⟩) 0 0) 0 [] rfl HE (.slice (some ad) l.length cap) _ _ rfl hrd1 (bv_one _) h63 hby ?_); intro v3 w3 H3; rw [Nat.zero_add, List.nil_append] at H3; obtain ⟨va, vc, hv3⟩ := H3.row_form; subst hv3))
    go_ret
    exact ⟨_, rfl, H3⟩

/-- What 'up' tells. -/
def UpOk (r : List Nat) (R m : Nat) (b : Bool) : Prop := (b = true ↔ (valD r = 0 ∨ 256 ^ r.length - valD r < R)) ∧ (b = true → (0 < m ↔ valD r ≠ 0))
def UpPost (r : List Nat) (R : Nat) (e : Ending) : Prop := ∃ m b, e = .returned (.tuple #[.int .u64 ((m : Nat) : Int), .bool b]) ∧ UpOk r R m b
theorem valD_take_succ {l : List Nat} {i : Nat} (h : i < l.length) : valD (l.take (i + 1)) = valD (l.take i) * 256 + l.getD i 0 := by
  rw [List.take_succ_eq_append_getElem h, valD_snoc]
  simp [List.getD, List.getElem?_eq_getElem h]
theorem valD_zero_iff (l : List Nat) : valD l = 0 ↔ ∀ d ∈ l, d = 0 := by
  induction l using rev_ind with
  | h0 => simp [valD]
  | h1 l d ih =>
    rw [valD_snoc]
    constructor
    · intro h x hx
      simp only [List.mem_append, List.mem_singleton] at hx
      rcases hx with hx | rfl
      · exact ih.1 (by omega) x hx
      · omega
    · intro h
      have h1 := ih.2 (fun x hx => h x (by simp [hx]))
      have h2 := h d (by simp)
      omega
theorem valD_append (a b : List Nat) : valD (a ++ b) = valD a * 256 ^ b.length + valD b := by
  induction b using rev_ind with
  | h0 => simp [valD]
  | h1 l d ih => rw [← List.append_assoc, valD_snoc, ih, valD_snoc, List.length_append, List.length_singleton, Nat.pow_succ, ← Nat.mul_assoc]; omega
theorem valD_255 (l : List Nat) : (∀ d ∈ l, d < 256) → ((∀ d ∈ l, d = 255) ↔ valD l + 1 = 256 ^ l.length) := by
  induction l using rev_ind with
  | h0 => simp [valD]
  | h1 l d ih =>
    intro hl
    have h1 := ih (fun x hx => hl x (by simp [hx]))
    have h2 := valD_lt l (fun x hx => hl x (by simp [hx]))
    have h3 := hl d (by simp)
    rw [valD_snoc, List.length_append, List.length_singleton, Nat.pow_succ]
    constructor
    · intro h
      have h4 := h1.1 (fun x hx => h x (by simp [hx]))
      have h5 := h d (by simp)
      omega
    · intro h x hx
      simp only [List.mem_append, List.mem_singleton] at hx
      rcases hx with hx | rfl
      · exact h1.2 (by omega) x hx
      · omega

set_option maxRecDepth 100000 in
set_option maxHeartbeats 4000000 in
theorem up_calls {g cap n R : Nat} {l : List Nat} {w : World} (hl : ∀ d ∈ l, d < 256) (hn : n ≤ l.length) (hcap : l.length ≤ cap) (hlen : l.length ≤ 1000000) (hR : R ≤ 4294967296)
    (hrd : RdS w (.slice (some ⟨g, 0, none⟩) l.length cap) l.length 1 (l.map bv)) :
    Calls Try.prog 87 #[.slice (some ⟨g, 0, none⟩) l.length cap, .int .i64 (n : Int), .int .u64 (R : Int)] w fun e w' => w = w' ∧ UpPost (l.drop n) R e := by
  obtain ⟨r, hr⟩ : ∃ r, r = l.drop n := ⟨_, rfl⟩
  obtain ⟨T, hT⟩ : ∃ T, T = r.length := ⟨_, rfl⟩
  have hlT : l.length = n + T := by rw [hT, hr, List.length_drop]; omega
  have hrl : ∀ d ∈ r, d < 256 := fun d hd => hl d (by rw [hr] at hd; exact List.mem_of_mem_drop hd)
  have HC : Hid (∀ i, i < T → w.cell? ⟨g, n + i, none⟩ = some (.int .u8 ((r.getD i 0 : Nat) : Int))) := Lib.hid fun i hi => by
    have h1 : (l.map bv)[n + i]? = some (bv (r.getD i 0)) := by
      rw [hr, List.getElem?_map, List.getElem?_eq_getElem (by omega)]
      simp only [Option.map_some, List.getD, List.getElem?_drop]
      rw [List.getElem?_eq_getElem (by omega)]
      rfl
    have := hrd.cell (n + i) h1
    rw [Nat.zero_add] at this
    exact this
  have HD : Hid (∀ i, i < T → r.getD i 0 < 256) := Lib.hid fun i hi => by
    rw [List.getD, List.getElem?_eq_getElem (by omega)]
    exact hrl _ (List.getElem_mem _)
  have HS : Hid (∀ i, i < T → valD (r.take (i + 1)) = valD (r.take i) * 256 + r.getD i 0) := Lib.hid fun i hi => valD_take_succ (by omega)
  have HL := Lib.hid hrl
  have HT := Lib.hid hT
  rw [← hr]
  clear hr hT hrd hl hrl
  rw [hlT] at hcap hlen hn ⊢
  clear hlT
  have hsub : ((n + T : Nat) : Int) - (n : Int) = (T : Int) := by omega
  have hcap2 : ((n + T : Nat) : Int) ≤ (cap : Int) := by omega
  have hnn : (n : Int) ≤ ((n + T : Nat) : Int) := by omega
  by_cases hT0 : T = 0
  · subst hT0
    have hv0 : valD r = 0 := by rw [List.length_eq_zero_iff.1 HT.out.symm]; rfl
    have HU : Hid (UpOk r R 0 true) := Lib.hid ⟨⟨fun _ => .inl hv0, fun _ => rfl⟩, fun _ => ⟨fun h => absurd h (by decide), fun h => absurd hv0 h⟩⟩
    go_enter Try.func87, Try.ntmps87
    go_wp2_with fail
    all_goals (
      go_loopg [9, 11, 24] 1 (fun _ z _ j wr => wr = w ∧ z = .bool true ∧ j = .int .i64 0)
      case atStart => exact ⟨rfl, rfl, rfl⟩
      case round =>
        obtain ⟨rfl, rfl, rfl⟩ := hrel
        go_wp2_with fail
        go_ret2
        exact ⟨rfl, 0, true, rfl, HU.out⟩)
  · have hne : ¬ cap = n := by omega
    have hne2 : n < cap := by omega
    have hne3 : ¬ n = cap := by omega
    have hne4 : ¬ cap - n = 0 := by omega
    go_enter Try.func87, Try.ntmps87
    go_wp2_with fail
    go_loopg [9, 11, 24] T (fun gk z _ j wr => wr = w ∧ ∃ i : Nat, Hid (i ≤ T ∧ gk = T - i) ∧ z = .bool (decide (valD (r.take i) = 0)) ∧ j = .int .i64 (i : Int))
    case atStart => exact ⟨rfl, 0, Lib.hid ⟨by omega, rfl⟩, rfl, rfl⟩
    case round =>
      obtain ⟨rfl, i, hq, rfl, rfl⟩ := hrel
      obtain ⟨q1, q2⟩ := hq.out
      clear hq
      by_cases hi : i < T
      · have hi2 : (i : Int) < (T : Int) := by omega
        have c1 := HC.out i hi
        have hs := HS.out i hi
        have hdb := HD.out i hi
        generalize valD (r.take i) = V at *
        generalize r.getD i 0 = d at *
        have hz : decide (V * 256 + d = 0) = (decide (V = 0) && decide (d = 0)) := by rw [← Bool.decide_and]; exact decide_eq_decide.2 (by omega)
        have HSS := Lib.hid hs
        have HZ := Lib.hid hz
        clear hs hz
        by_cases hV : V = 0
        · subst hV
          by_cases hd : d = 0
          · subst hd
            go_wp2_with fail
            go_roundg (T - (i + 1))
            case rel => exact ⟨rfl, i + 1, Lib.hid ⟨by omega, rfl⟩, by rw [HSS.out]; rfl, by go_num⟩
            case measure => omega
          · have hd0 : ((d : Int) == 0) = false := by simp; omega
            have hd1 : ¬ (d : Int) = 0 := by omega
            go_wp2_with fail
            go_roundg (T - (i + 1))
            case rel => exact ⟨rfl, i + 1, Lib.hid ⟨by omega, rfl⟩, by rw [HSS.out, HZ.out, decide_eq_false hd]; rfl, by go_num⟩
            case measure => omega
        · have hdV : decide (V = 0) = false := decide_eq_false hV
          rw [hdV]
          go_wp2_with fail
          go_roundg (T - (i + 1))
          case rel => exact ⟨rfl, i + 1, Lib.hid ⟨by omega, rfl⟩, by rw [HSS.out, HZ.out, decide_eq_false hV]; rfl, by go_num⟩
          case measure => omega
      · obtain rfl : i = T := by omega
        have htk : r.take i = r := by rw [HT.out]; exact List.take_length
        rw [htk]
        by_cases hv0 : valD r = 0
        · have HU : Hid (UpOk r R 0 true) := Lib.hid ⟨⟨fun _ => .inl hv0, fun _ => rfl⟩, fun _ => ⟨fun h => absurd h (by decide), fun h => absurd hv0 h⟩⟩
          rw [decide_eq_true hv0]
          go_wp2_with fail
          go_ret2
          exact ⟨rfl, 0, true, rfl, HU.out⟩
        · rw [decide_eq_false hv0]
          have HV0 := Lib.hid hv0
          clear hv0 htk
          by_cases hT4 : i ≤ 4
          · have hT5 : ¬ (4 : Int) < (i : Int) := by omega
            have hvl := valD_lt r HL.out
            rw [← HT.out] at hvl
            have HV2 := Lib.hid hvl
            have HB2 : Hid (∀ t, t ≤ i → valD (r.take t) < 1099511627776) := Lib.hid fun t ht => by
              have h1 := valD_lt (r.take t) (fun d hd => HL.out d (List.mem_of_mem_take hd))
              rw [List.length_take, Nat.min_eq_left (by rw [← HT.out]; exact ht)] at h1
              have h2 : 256 ^ t ≤ 256 ^ 4 := Nat.pow_le_pow_right (by decide) (by omega)
              have h3 : (256 : Nat) ^ 4 < 1099511627776 := by decide
              omega
            have HU2 : Hid (UpOk r R (256 ^ i - valD r) (decide (256 ^ i - valD r < R))) := Lib.hid (by
              have h0 := HV0.out
              refine ⟨?_, fun _ => ?_⟩
              · rw [← HT.out, decide_eq_true_iff]
                constructor
                · exact .inr
                · rintro (h | h)
                  · exact absurd h h0
                  · exact h
              · omega)
            have HC2 := HC
            have HS2 := HS
            have HD2 := HD
            have HT2 := HT
            clear HC HS HD hvl
            go_wp2_with fail
            go_loopg [15, 17, 59] i (fun gk hv _ j wq => wq = wr ∧ ∃ t : Nat, Hid (t ≤ i ∧ gk = i - t) ∧ hv = .int .u64 (valD (r.take t) : Int) ∧ j = .int .i64 (t : Int))
            case atStart => exact ⟨rfl, 0, Lib.hid ⟨by omega, rfl⟩, rfl, rfl⟩
            case round =>
              obtain ⟨rfl, t, hq, rfl, rfl⟩ := hrel
              obtain ⟨q1, q2⟩ := hq.out
              clear hq
              by_cases ht : t < i
              · have ht2 : (t : Int) < (i : Int) := by omega
                have c1 := HC2.out t ht
                have hs := HS2.out t ht
                have hvb := HB2.out t (Nat.le_of_lt ht)
                have hdb := HD2.out t ht
                have hb := or_byte hvb hdb
                generalize valD (r.take t) = V at *
                generalize r.getD t 0 = d at *
                have HSS := Lib.hid hs
                clear hs
                go_wp2_with fail
                go_roundg (i - (t + 1))
                case rel => exact ⟨rfl, t + 1, Lib.hid ⟨by omega, rfl⟩, by rw [HSS.out]; go_num, by go_num⟩
                case measure => omega
              · have htt : t = i := by omega
                have htk : r.take i = r := List.take_of_length_le (by rw [← HT2.out]; omega)
                subst htt
                have hvb := HV2.out
                rw [htk]
                have HUU := HU2
                clear htk HC2 HS2 HB2 HD2 HU2
                rcases (show t = 1 ∨ t = 2 ∨ t = 3 ∨ t = 4 by omega) with rfl | rfl | rfl | rfl
                · generalize valD r = V at *
                  have hvb2 : V < 256 := hvb
                  have HU2 : UpOk r R (256 - V) (decide (256 - V < R)) := HUU.out
                  by_cases hb : 256 - V < R
                  · rw [decide_eq_true hb] at HU2
                    have HU3 := Lib.hid HU2
                    have hb2 : (256 : Int) - (V : Int) < (R : Int) := by omega
                    have hcast : ((256 - V : Nat) : Int) = (256 : Int) - (V : Int) := by omega
                    have HCC := Lib.hid hcast
                    clear hcast HU2 HUU HV2
                    go_wp2_with fail
                    go_ret2
                    exact ⟨rfl, 256 - V, true, by rw [HCC.out]; rfl, HU3.out⟩
                  · rw [decide_eq_false hb] at HU2
                    have HU3 := Lib.hid HU2
                    have hb2 : ¬ (256 : Int) - (V : Int) < (R : Int) := by omega
                    have hcast : ((256 - V : Nat) : Int) = (256 : Int) - (V : Int) := by omega
                    have HCC := Lib.hid hcast
                    clear hcast HU2 HUU HV2
                    go_wp2_with fail
                    go_ret2
                    exact ⟨rfl, 256 - V, false, by rw [HCC.out]; rfl, HU3.out⟩
                · generalize valD r = V at *
                  have hvb2 : V < 65536 := hvb
                  have HU2 : UpOk r R (65536 - V) (decide (65536 - V < R)) := HUU.out
                  by_cases hb : 65536 - V < R
                  · rw [decide_eq_true hb] at HU2
                    have HU3 := Lib.hid HU2
                    have hb2 : (65536 : Int) - (V : Int) < (R : Int) := by omega
                    have hcast : ((65536 - V : Nat) : Int) = (65536 : Int) - (V : Int) := by omega
                    have HCC := Lib.hid hcast
                    clear hcast HU2 HUU HV2
                    go_wp2_with fail
                    go_ret2
                    exact ⟨rfl, 65536 - V, true, by rw [HCC.out]; rfl, HU3.out⟩
                  · rw [decide_eq_false hb] at HU2
                    have HU3 := Lib.hid HU2
                    have hb2 : ¬ (65536 : Int) - (V : Int) < (R : Int) := by omega
                    have hcast : ((65536 - V : Nat) : Int) = (65536 : Int) - (V : Int) := by omega
                    have HCC := Lib.hid hcast
                    clear hcast HU2 HUU HV2
                    go_wp2_with fail
                    go_ret2
                    exact ⟨rfl, 65536 - V, false, by rw [HCC.out]; rfl, HU3.out⟩
                · generalize valD r = V at *
                  have hvb2 : V < 16777216 := hvb
                  have HU2 : UpOk r R (16777216 - V) (decide (16777216 - V < R)) := HUU.out
                  by_cases hb : 16777216 - V < R
                  · rw [decide_eq_true hb] at HU2
                    have HU3 := Lib.hid HU2
                    have hb2 : (16777216 : Int) - (V : Int) < (R : Int) := by omega
                    have hcast : ((16777216 - V : Nat) : Int) = (16777216 : Int) - (V : Int) := by omega
                    have HCC := Lib.hid hcast
                    clear hcast HU2 HUU HV2
                    go_wp2_with fail
                    go_ret2
                    exact ⟨rfl, 16777216 - V, true, by rw [HCC.out]; rfl, HU3.out⟩
                  · rw [decide_eq_false hb] at HU2
                    have HU3 := Lib.hid HU2
                    have hb2 : ¬ (16777216 : Int) - (V : Int) < (R : Int) := by omega
                    have hcast : ((16777216 - V : Nat) : Int) = (16777216 : Int) - (V : Int) := by omega
                    have HCC := Lib.hid hcast
                    clear hcast HU2 HUU HV2
                    go_wp2_with fail
                    go_ret2
                    exact ⟨rfl, 16777216 - V, false, by rw [HCC.out]; rfl, HU3.out⟩
                · generalize valD r = V at *
                  have hvb2 : V < 4294967296 := hvb
                  have HU2 : UpOk r R (4294967296 - V) (decide (4294967296 - V < R)) := HUU.out
                  by_cases hb : 4294967296 - V < R
                  · rw [decide_eq_true hb] at HU2
                    have HU3 := Lib.hid HU2
                    have hb2 : (4294967296 : Int) - (V : Int) < (R : Int) := by omega
                    have hcast : ((4294967296 - V : Nat) : Int) = (4294967296 : Int) - (V : Int) := by omega
                    have HCC := Lib.hid hcast
                    clear hcast HU2 HUU HV2
                    go_wp2_with fail
                    go_ret2
                    exact ⟨rfl, 4294967296 - V, true, by rw [HCC.out]; rfl, HU3.out⟩
                  · rw [decide_eq_false hb] at HU2
                    have HU3 := Lib.hid HU2
                    have hb2 : ¬ (4294967296 : Int) - (V : Int) < (R : Int) := by omega
                    have hcast : ((4294967296 - V : Nat) : Int) = (4294967296 : Int) - (V : Int) := by omega
                    have HCC := Lib.hid hcast
                    clear hcast HU2 HUU HV2
                    go_wp2_with fail
                    go_ret2
                    exact ⟨rfl, 4294967296 - V, false, by rw [HCC.out]; rfl, HU3.out⟩
          · have hT5 : (4 : Int) < (i : Int) := by omega
            obtain ⟨m, rfl⟩ : ∃ m, i = m + 4 := ⟨i - 4, by omega⟩
            obtain ⟨r2, hr2⟩ : ∃ r2, r2 = r.drop m := ⟨_, rfl⟩
            obtain ⟨r1, hr1⟩ : ∃ r1, r1 = r.take m := ⟨_, rfl⟩
            have hrr : r = r1 ++ r2 := by rw [hr1, hr2, List.take_append_drop]
            have hl1 : r1.length = m := by rw [hr1, List.length_take, ← HT.out]; omega
            have hl2 : 4 = r2.length := by rw [hr2, List.length_drop, ← HT.out]; omega
            have hb1 : ∀ d ∈ r1, d < 256 := fun d hd => HL.out d (by rw [hrr]; simp [hd])
            have hb2 : ∀ d ∈ r2, d < 256 := fun d hd => HL.out d (by rw [hrr]; simp [hd])
            have hg1 : ∀ t, t < m → r.getD t 0 = r1.getD t 0 := fun t ht => by
              rw [hrr, List.getD, List.getD, List.getElem?_append_left (by omega)]
            have hg2 : ∀ t, t < 4 → r.getD (m + t) 0 = r2.getD t 0 := fun t ht => by
              rw [hrr, List.getD, List.getD, List.getElem?_append_right (by omega), hl1, Nat.add_sub_cancel_left]
            have hva : valD r = valD r1 * 4294967296 + valD r2 := by rw [hrr, valD_append, ← hl2]
            have hv1 := valD_lt r1 hb1
            have hv2 := valD_lt r2 hb2
            have h255 := valD_255 r1 hb1
            rw [hl1] at hv1 h255
            rw [← hl2] at hv2
            have hpm : 256 ^ (m + 4) = 256 ^ m * 4294967296 := by rw [Nat.pow_add]
            have HNO : Hid (¬ (∀ d ∈ r1, d = 255) → UpOk r R 0 false) := Lib.hid (fun hno => by
              rw [h255] at hno
              refine ⟨⟨fun h => (by cases h), fun h => ?_⟩, fun h => (by cases h)⟩
              exfalso
              rcases h with h | h
              · exact HV0.out h
              · rw [← HT.out, hpm, hva] at h
                omega)
            have HU1 : Hid ((∀ d ∈ r1, d = 255) → UpOk r R (4294967296 - valD r2) (decide (4294967296 - valD r2 < R))) := Lib.hid (fun hyes => by
              rw [h255] at hyes
              have e : 256 ^ (m + 4) - valD r = 4294967296 - valD r2 := by rw [hpm, hva]; omega
              refine ⟨?_, fun _ => ?_⟩
              · rw [← HT.out, decide_eq_true_iff, e]
                constructor
                · exact .inr
                · rintro (h | h)
                  · exact absurd h HV0.out
                  · exact h
              · have := HV0.out
                constructor
                · intro _; exact this
                · intro _; omega)
            have HV2 : Hid (valD r2 < 4294967296) := Lib.hid hv2
            have HB2 : Hid (∀ t, t ≤ 4 → valD (r2.take t) < 1099511627776) := Lib.hid fun t ht => by
              have h1 := valD_lt (r2.take t) (fun d hd => hb2 d (List.mem_of_mem_take hd))
              rw [List.length_take, Nat.min_eq_left (by rw [← hl2]; exact ht)] at h1
              have h2 : 256 ^ t ≤ 256 ^ 4 := Nat.pow_le_pow_right (by decide) (by omega)
              have h3 : (256 : Nat) ^ 4 < 1099511627776 := by decide
              omega
            have HC2 : Hid (∀ t, t < 4 → wr.cell? ⟨g, n + m + t, none⟩ = some (.int .u8 ((r2.getD t 0 : Nat) : Int))) := Lib.hid fun t ht => by
              have := HC.out (m + t) (by omega)
              rw [hg2 t ht, ← Nat.add_assoc] at this
              exact this
            have HS2 : Hid (∀ t, t < 4 → valD (r2.take (t + 1)) = valD (r2.take t) * 256 + r2.getD t 0) := Lib.hid fun t ht => valD_take_succ (by omega)
            have HD2 : Hid (∀ t, t < 4 → r2.getD t 0 < 256) := Lib.hid fun t ht => by
              have := HD.out (m + t) (by omega)
              rw [hg2 t ht] at this
              exact this
            have HC1 : Hid (∀ t, t < m → wr.cell? ⟨g, n + t, none⟩ = some (.int .u8 ((r1.getD t 0 : Nat) : Int))) := Lib.hid fun t ht => by
              have := HC.out t (by omega)
              rw [hg1 t ht] at this
              exact this
            have HE1 : Hid (∀ t, t < m → r1.getD t 0 ∈ r1 ∧ (∀ d ∈ r1.take (t + 1), d = 255 ∨ d ∈ r1.take t ∨ d = r1.getD t 0)) := Lib.hid fun t ht => by
              have e : r1.getD t 0 = r1[t]'(by omega) := by rw [List.getD, List.getElem?_eq_getElem (by omega)]; rfl
              refine ⟨by rw [e]; exact List.getElem_mem _, fun d hd => ?_⟩
              rw [List.take_succ_eq_append_getElem (by omega), List.mem_append, List.mem_singleton, ← e] at hd
              exact .inr hd
            have HL1 := Lib.hid hl1
            have HT2 := Lib.hid hl2
            clear hr1 hr2 hrr hl1 hl2 hb1 hb2 hg1 hg2 hva hv1 hv2 h255 hpm HC HS HD
            have e1 : ((m + 4 : Nat) : Int) - 4 = (m : Int) := by omega
            have e2 : m + 4 - m = 4 := by omega
            have e3 : ¬ cap - n = m := by omega
            have e4 : m < cap - n := by omega
            go_wp2_with fail
            go_loopg [14, 45] m (fun gk _ j wr' => wr' = wr ∧ ∃ t : Nat, Hid (t ≤ m ∧ gk = m - t ∧ ∀ d ∈ r1.take t, d = 255) ∧ j = .int .i64 (t : Int))
            case atStart => exact ⟨rfl, 0, Lib.hid ⟨by omega, rfl, by simp⟩, rfl⟩
            case round =>
              obtain ⟨rfl, t, hq, rfl⟩ := hrel
              obtain ⟨q1, q2, q3⟩ := hq.out
              clear hq
              have HQ := Lib.hid q3
              clear q3
              by_cases ht : t < m
              · have ht2 : (t : Int) < (m : Int) := by omega
                have c1 := HC1.out t ht
                have hE := HE1.out t ht
                generalize r1.getD t 0 = d at *
                by_cases hd : d = 255
                · subst hd
                  have HQ2 : Hid (∀ d ∈ r1.take (t + 1), d = 255) := Lib.hid fun d hd => by
                    rcases hE.2 d hd with h | h | h
                    · exact h
                    · exact HQ.out d h
                    · exact h
                  clear hE
                  go_wp2_with fail
                  go_roundg (m - (t + 1))
                  case rel => exact ⟨rfl, t + 1, Lib.hid ⟨by omega, rfl, HQ2.out⟩, by go_num⟩
                  case measure => omega
                · have hd0 : ((d : Int) != 255) = true := by simp; omega
                  have hd1 : ¬ (d : Int) = 255 := by omega
                  have HN2 := Lib.hid (HNO.out fun h => hd (h d hE.1))
                  clear hE
                  go_wp2_with fail
                  refine bodyPost_ret (results_tmp2 rfl _ _ _) rfl ?_
                  exact ⟨rfl, 0, false, rfl, HN2.out⟩
              · have htt : t = m := by omega
                subst htt
                have HU2 := Lib.hid (HU1.out (by
                  have := HQ.out
                  rw [← HL1.out, List.take_length] at this
                  exact this))
                clear HQ HC1 HE1 HU1 HNO
                go_wp2_with fail
                go_loopg [15, 17, 59] 4 (fun gk hv _ j wq => wq = wr ∧ ∃ t : Nat, Hid (t ≤ 4 ∧ gk = 4 - t) ∧ hv = .int .u64 (valD (r2.take t) : Int) ∧ j = .int .i64 (t : Int))
                case atStart => exact ⟨rfl, 0, Lib.hid ⟨by omega, rfl⟩, rfl, rfl⟩
                case round =>
                  obtain ⟨rfl, t, hq, rfl, rfl⟩ := hrel
                  obtain ⟨q1, q2⟩ := hq.out
                  clear hq
                  by_cases ht : t < 4
                  · have ht2 : (t : Int) < (4 : Int) := by omega
                    have c1 := HC2.out t ht
                    have hs := HS2.out t ht
                    have hvb := HB2.out t (Nat.le_of_lt ht)
                    have hdb := HD2.out t ht
                    have hb := or_byte hvb hdb
                    generalize valD (r2.take t) = V at *
                    generalize r2.getD t 0 = d at *
                    have HSS := Lib.hid hs
                    clear hs
                    go_wp2_with fail
                    go_roundg (4 - (t + 1))
                    case rel => exact ⟨rfl, t + 1, Lib.hid ⟨by omega, rfl⟩, by rw [HSS.out]; go_num, by go_num⟩
                    case measure => omega
                  · have htt : t = 4 := by omega
                    have htk : r2.take 4 = r2 := List.take_of_length_le (by rw [← HT2.out]; omega)
                    subst htt
                    have hvb := HV2.out
                    rw [htk]
                    have HUU := HU2
                    clear htk HC2 HS2 HB2 HD2 HU2
                    generalize valD r2 = V at *
                    have hvb2 : V < 4294967296 := hvb
                    have HU2 : UpOk r R (4294967296 - V) (decide (4294967296 - V < R)) := HUU.out
                    by_cases hb : 4294967296 - V < R
                    · rw [decide_eq_true hb] at HU2
                      have HU3 := Lib.hid HU2
                      have hb2 : (4294967296 : Int) - (V : Int) < (R : Int) := by omega
                      have hcast : ((4294967296 - V : Nat) : Int) = (4294967296 : Int) - (V : Int) := by omega
                      have HCC := Lib.hid hcast
                      clear hcast HU2 HUU HV2
                      go_wp2_with fail
                      go_ret2
                      exact ⟨rfl, 4294967296 - V, true, by rw [HCC.out]; rfl, HU3.out⟩
                    · rw [decide_eq_false hb] at HU2
                      have HU3 := Lib.hid HU2
                      have hb2 : ¬ (4294967296 : Int) - (V : Int) < (R : Int) := by omega
                      have hcast : ((4294967296 - V : Nat) : Int) = (4294967296 : Int) - (V : Int) := by omega
                      have HCC := Lib.hid hcast
                      clear hcast HU2 HUU HV2
                      go_wp2_with fail
                      go_ret2
                      exact ⟨rfl, 4294967296 - V, false, by rw [HCC.out]; rfl, HU3.out⟩

end Go.Proofs.Ytbhpcpcpccmacaa

namespace Go.Proofs.Ytbhpcpcpccmacaa
open Go.RowKit Go.Shelf

theorem rd_pt {w : World} {b n : Nat} {c : Array Value} {T : TypeId} {F : List HP} (hn : c.size = n) (H : Sep w (HP.pt b c T :: F)) : RdS w (.slice (some ⟨b, 0, none⟩) n n) n 1 c.toList :=
  ⟨by simp [hn], .inr ⟨_, _, rfl, fun j u hu => by
    rw [addr_add, Nat.zero_add]
    exact H.cell j (by rw [← Array.getElem?_toList]; exact hu)⟩⟩

/-- Is the next number of n bytes in the interval? -/
def OkN (K L R n : Nat) : Prop := L % 256 ^ (K - n) = 0 ∨ 256 ^ (K - n) - L % 256 ^ (K - n) < R
instance (K L R n : Nat) : Decidable (OkN K L R n) := by unfold OkN; exact inferInstance
/-- The next number of n bytes. -/
def upN (K L n : Nat) : Nat := if L % 256 ^ (K - n) = 0 then L / 256 ^ (K - n) else L / 256 ^ (K - n) + 1
/-- An interval's bytes. -/
def IsCode (K L R : Nat) (c : List Nat) : Prop := ∃ n, n ≤ K ∧ (∀ j, j < n → ¬ OkN K L R j) ∧ OkN K L R n ∧ c = digs n (upN K L n)
theorem OkN_last (K L R : Nat) : OkN K L R K := .inl (by rw [Nat.sub_self, Nat.pow_zero, Nat.mod_one])
theorem IsCode.uniq {K L R : Nat} {c d : List Nat} (h1 : IsCode K L R c) (h2 : IsCode K L R d) : c = d := by
  obtain ⟨n, a1, a2, a3, rfl⟩ := h1
  obtain ⟨m, b1, b2, b3, rfl⟩ := h2
  rcases Nat.lt_trichotomy n m with h | rfl | h
  · exact absurd a3 (b2 n h)
  · rfl
  · exact absurd b3 (a2 m h)
theorem upN_spec {K L R n : Nat} (h : OkN K L R n) (hR : 0 < R) : L ≤ upN K L n * 256 ^ (K - n) ∧ upN K L n * 256 ^ (K - n) < L + R := by
  have hp : 0 < 256 ^ (K - n) := Nat.pow_pos (by decide)
  have hd := Nat.div_add_mod L (256 ^ (K - n))
  have hm := Nat.mod_lt L hp
  unfold upN
  rcases h with h | h
  · rw [if_pos h]
    rw [Nat.mul_comm]
    omega
  · by_cases h0 : L % 256 ^ (K - n) = 0
    · rw [if_pos h0, Nat.mul_comm]; omega
    · rw [if_neg h0, Nat.add_mul, Nat.one_mul, Nat.mul_comm]
      omega
theorem upN_lt {K L R n : Nat} (hn : n ≤ K) (h : OkN K L R n) (hR : 0 < R) (hLR : L + R ≤ 256 ^ K) : upN K L n < 256 ^ n := by
  have h1 := (upN_spec h hR).2
  have h2 : 256 ^ K = 256 ^ n * 256 ^ (K - n) := by rw [← Nat.pow_add]; congr 1; omega
  rw [h2] at hLR
  have hp : 0 < 256 ^ (K - n) := Nat.pow_pos (by decide)
  exact (Nat.mul_lt_mul_right hp).1 (by omega)
theorem digs_four (k L : Nat) : digs (k + 4) L = digs k (L / 4294967296) ++ [L % 4294967296 / 16777216 % 256, L % 4294967296 / 65536 % 256, L % 4294967296 / 256 % 256, L % 4294967296 % 256] := by
  rw [digs_add k 4 L]
  congr 1
  rw [show (digs 4 L) = digs 4 (L % 256 ^ 4) from (digs_mod 4 L).symm]
  generalize L % 256 ^ 4 = x
  simp only [digs, List.nil_append, List.cons_append, Nat.div_div_eq_div_mul]
theorem upOk_iff {K L R n m : Nat} {b : Bool} (hn : n ≤ K) (h : UpOk ((digs K L).drop n) R m b) : (b = true ↔ OkN K L R n) ∧ (b = true → (0 < m ↔ ¬ L % 256 ^ (K - n) = 0)) := by
  rw [digs_drop hn] at h
  unfold UpOk at h
  rw [valD_digs, digs_length] at h
  exact h
theorem enc_nil {v i : Value} {w : World} (ti : ∃ y, i = .int .i64 y) (tv : ∃ a, v = .pointer a) : Calls Try.prog 57 #[.pointer none, v, i] w fun e w' => e = .returned (.int .i64 1) ∧ w = w' := by
  obtain ⟨y, rfl⟩ := ti
  obtain ⟨a, rfl⟩ := tv
  go_enter Try.func57, Try.ntmps57
  go_wp2_with fail
  go_ret
  exact ⟨rfl, rfl⟩
theorem finish_nil {w : World} : Calls Try.prog 59 #[.pointer none] w fun e w' => e = .returned (.slice none 0 0) ∧ w = w' := by
  go_enter Try.func59, Try.ntmps59
  go_wp2_with fail
  go_ret
  exact ⟨rfl, rfl⟩

set_option maxRecDepth 100000 in
set_option maxHeartbeats 4000000 in
theorem finish_calls {q : Nat} {x : Nat × Nat × Nat} {F : List HP} {w : World} (hI : IvI x) (hk : x.1 ≤ 200000) (H : Sep w (EncI q x :: F)) :
    Calls Try.prog 59 #[.pointer (some ⟨q, 0, none⟩)] w (Gives fun r w' => ∃ c, IsCode (x.1 + 4) x.2.1 x.2.2 c ∧ Sep w' (HP.row 5 1 r c.length (c.map bv) :: EncI q x :: F)) := by
  obtain ⟨k, L, R⟩ := x
  change Sep w (Enc q k L R :: F) at H
  have hI : Iv k L R := hI
  obtain ⟨a, c, H0⟩ := Enc.open H
  obtain ⟨i1, i2, i3⟩ := hI
  have hk : k ≤ 200000 := hk
  have hdl : (digs k (L / 4294967296)).length = k := digs_length _ _
  have c0 := H0.cell 0 rfl
  have c1 := H0.cell 1 rfl
  have h4 := digs_four k L
  have HSH : Hid (∀ (F : List HP) w', Sep w' (HP.pt q #[.slice a k c, .int .u64 ((L % 4294967296 : Nat) : Int), .int .u64 (R : Int)] 106 :: HP.row 5 1 (.slice a k c) k ((digs k (L / 4294967296)).map bv) :: F) → Sep w' (Enc q k L R :: F)) := Lib.hid fun F w' h => Enc.shut h
  have HCL : Hid (∀ {F : List HP} (w' : World), Reads F (.slice a k c) k 1 ((digs k (L / 4294967296)).map bv) → Sep w' F → Calls Try.prog 86 #[.slice a k c] w' (Gives fun r w' => Sep w' (HP.row 5 1 r k ((digs k (L / 4294967296)).map bv) :: F))) := Lib.hid fun w' h1 h2 => by
    have := bclone_calls (l := digs k (L / 4294967296)) (by rw [hdl]; omega) (by rw [hdl]; exact h1) h2
    rw [hdl] at this
    exact this
  have hlo : L % 4294967296 < 4294967296 := by omega
  clear H hdl
  generalize hdd : digs k (L / 4294967296) = dd at *
  generalize L % 4294967296 = lo at *
  have wr : ∀ x : Nat, IntKind.u8.wrap (x : Int) = ((x % 256 : Nat) : Int) := fun x => by
    rw [IntKind.wrap_u8]
    omega
  have e0 : IntKind.u8.wrap ((lo : Int) / 16777216) = ((lo / 16777216 % 256 : Nat) : Int) := wr (lo / 16777216)
  have e1 : IntKind.u8.wrap ((lo : Int) / 65536) = ((lo / 65536 % 256 : Nat) : Int) := wr (lo / 65536)
  have e2 : IntKind.u8.wrap ((lo : Int) / 256) = ((lo / 256 % 256 : Nat) : Int) := wr (lo / 256)
  have e3 : IntKind.u8.wrap (lo : Int) = ((lo % 256 : Nat) : Int) := wr lo
  generalize lo / 16777216 % 256 = y0 at *
  generalize lo / 65536 % 256 = y1 at *
  generalize lo / 256 % 256 = y2 at *
  generalize lo % 256 = y3 at *
  have H4 := Lib.hid h4
  clear h4 wr hdd
  have hl1 : k + 4 ≤ maxLen := by unfold maxLen; omega
  have hl2 : (k + 4) * 1 ≤ 140737488355328 := by omega
  have hone : ∀ u ∈ [Value.int .u8 (y0 : Int), .int .u8 (y1 : Int), .int .u8 (y2 : Int), .int .u8 (y3 : Int)], u.oneCell' = true := by
    intro u hu; simp only [List.mem_cons, List.not_mem_nil, or_false] at hu; rcases hu with rfl | rfl | rfl | rfl <;> rfl
  have HB := H0.drew.alloc #[.int .u8 (y0 : Int), .int .u8 (y1 : Int), .int .u8 (y2 : Int), .int .u8 (y3 : Int)] 5
  have q0 := HB.tail.cell 0 rfl
  have q1 := HB.tail.cell 1 rfl
  go_enter Try.func59, Try.ntmps59
  go_wp2_with fail
  go_region_held3 (fun w' => w'.cell? ⟨q, 0, none⟩ = some (.slice a k c) ∧ w'.cell? ⟨q, 1, none⟩ = some (.int .u64 (lo : Int))) (first | exact ⟨c0, c1⟩ | exact ⟨q0, q1⟩ | exact ⟨H5.tail.cell 0 rfl, H5.tail.cell 1 rfl⟩ | exact ⟨H5.tail.tail.cell 0 rfl, H5.tail.tail.cell 1 rfl⟩ | exact ⟨(H5.alloc _ _).tail.tail.cell 0 rfl, (H5.alloc _ _).tail.tail.cell 1 rfl⟩ | exact ⟨H7.tail.tail.cell 0 rfl, H7.tail.tail.cell 1 rfl⟩) (first | (go_at_call 86; (first | refine (HCL.out _ (Reads.row.cons) H0.drew).mono ?_ | refine (HCL.out _ (Reads.row.cons.cons) HB).mono ?_); rintro e w5 ⟨r, rfl, H5⟩; obtain ⟨ra, rc, rfl⟩ := H5.row_form) | (refine step_append_src rfl (.tmp 14) (.tmp 38) 33 rfl 5 (.int .u8 0) 1 1 Try.underlying33 info_byte rfl (by decide) (.slice ra k rc) k _ rfl (H5.alloc _ 5).swap (.slice (some ⟨w5.heap.size, 0, none⟩) 4 4) 4 [.int .u8 (y0 : Int), .int .u8 (y1 : Int), .int .u8 (y2 : Int), .int .u8 (y3 : Int)] rfl (rd_pt rfl (H5.alloc _ 5)) hone hl1 hl2 ?_; intro va vc w7 H7) | (refine step_append_src rfl (.tmp 14) (.tmp 38) 33 rfl 5 (.int .u8 0) 1 1 Try.underlying33 info_byte rfl (by decide) (.slice ra k rc) k _ rfl H5 (.slice (some ⟨w.heap.size, 0, none⟩) 4 4) 4 [.int .u8 (y0 : Int), .int .u8 (y1 : Int), .int .u8 (y2 : Int), .int .u8 (y3 : Int)] rfl (rd_pt rfl H5.tail) hone hl1 hl2 ?_; intro va vc w7 H7))
  all_goals (
    have hdg : (dd.map bv ++ [.int .u8 (y0 : Int), .int .u8 (y1 : Int), .int .u8 (y2 : Int), .int .u8 (y3 : Int)]) = (digs (k + 4) L).map bv := by rw [H4.out]; simp [bv]
    rw [hdg] at H7
    have H8 := (HSH.out _ _ H7.swap.tail.mid2).swap
    clear H7 hdg H0 HB q0 q1 c0 c1
    obtain ⟨g, cap, _, hsv, hcap, -⟩ := H8.row_open (by omega)
    simp only [Value.slice.injEq] at hsv
    obtain ⟨rfl, -, rfl⟩ := hsv
    generalize hN : (Value.slice (some _) 4 4) = sN
    clear hN
    have hdl : (digs (k + 4) L).length = k + 4 := digs_length _ _
    have HUP : Hid (∀ w' n, n ≤ k + 4 → Sep w' (HP.row 5 1 (.slice (some ⟨g, 0, none⟩) (k + 4) vc) (k + 4) ((digs (k + 4) L).map bv) :: Enc q k L R :: F) → Calls Try.prog 87 #[.slice (some ⟨g, 0, none⟩) (k + 4) vc, .int .i64 (n : Int), .int .u64 (R : Int)] w' fun e w'' => w' = w'' ∧ UpPost ((digs (k + 4) L).drop n) R e) := Lib.hid fun w' n hn h => by
      have := up_calls (l := digs (k + 4) L) (R := R) (digs_lt _ _) (by rw [hdl]; exact hn) (by rw [hdl]; exact hcap) (by rw [hdl]; omega) i2 (by rw [hdl]; exact h.rd)
      rw [hdl] at this
      exact this
    have HRD : Hid (∀ n, n ≤ k + 4 → Reads (HP.row 5 1 (.slice (some ⟨g, 0, none⟩) (k + 4) vc) (k + 4) ((digs (k + 4) L).map bv) :: Enc q k L R :: F) (.slice (some ⟨g, 0, none⟩) n vc) n 1 ((digs n (L / 256 ^ (k + 4 - n))).map bv)) := Lib.hid fun n hn w' hw => by
      have := hw.rd.take hn
      rw [← List.map_take, digs_take hn] at this
      exact this
    go_wp2_with fail
    go_loopg [43] (k + 5) (fun gk j wr => ∃ n : Nat, Hid (n ≤ k + 4 ∧ gk = k + 5 - n ∧ ∀ i, i < n → ¬ OkN (k + 4) L R i) ∧ j = .int .i64 (n : Int) ∧ Sep wr (HP.row 5 1 (.slice (some ⟨g, 0, none⟩) (k + 4) vc) (k + 4) ((digs (k + 4) L).map bv) :: Enc q k L R :: F))
    case atStart => exact ⟨0, Lib.hid ⟨by omega, rfl, fun i hi => absurd hi (by omega)⟩, rfl, H8⟩
    case round =>
      clear H8
      obtain ⟨n, hq, rfl, Hr⟩ := hrel
      obtain ⟨q1, q2, q3⟩ := hq.out
      clear hq
      have HQ := Lib.hid q3
      clear q3
      have hlt : (n : Int) < (k : Int) + 4 + 1 := by omega
      have hlt5 : (n : Int) < (k : Int) + 5 := by omega
      have hn4 : (n : Int) ≤ (k : Int) + 4 := by omega
      obtain ⟨a', c', He⟩ := Enc.open Hr.swap
      have d2 := He.cell 2 rfl
      go_wp2_with fail
      refine (HUP.out _ n q1 Hr).mono ?_
      rintro e w'' ⟨rfl, m, b, rfl, hU⟩
      obtain ⟨u1, u2⟩ := upOk_iff q1 hU
      clear hU
      cases b with
      | false =>
        have hno : ¬ OkN (k + 4) L R n := fun h => by have := u1.2 h; cases this
        have hnk : n ≠ k + 4 := fun h => hno (by rw [h]; exact OkN_last _ _ _)
        have HNO := Lib.hid hno
        clear u1 u2 hno
        go_wp2_with fail
        go_roundg (k + 5 - (n + 1))
        case rel => exact ⟨n + 1, Lib.hid ⟨by omega, rfl, fun i hi => by
          rcases Nat.lt_or_ge i n with h | h
          · exact HQ.out i h
          · obtain rfl : i = n := by omega
            exact HNO.out⟩, by go_num, Hr⟩
        case measure => omega
      | true =>
        have hok := Lib.hid (u1.1 rfl)
        have hmm := Lib.hid (u2 rfl)
        clear u1 u2 d2 He
        have hcn : (n : Int) ≤ (vc : Int) := by omega
        have hcn2 : n ≤ vc := by omega
        go_wp2_with fail
        refine (bclone_calls (l := digs n (L / 256 ^ (k + 4 - n))) (by rw [digs_length]; omega) (by rw [digs_length]; exact HRD.out n q1) Hr).mono ?_
        rintro e W ⟨r, rfl, HW⟩
        rw [digs_length] at HW
        obtain ⟨ra, rc, rfl⟩ := HW.row_form
        clear Hr
        have HA := HW.alloc #[.slice ra n rc, .int .u64 0, .int .u64 0] 106
        have g0 := HA.cell 0 rfl
        by_cases hm : m = 0
        · subst hm
          have hx : L % 256 ^ (k + 4 - n) = 0 := Decidable.not_not.1 fun h => absurd (hmm.out.2 h) (by decide)
          have hcode : IsCode (k + 4) L R (digs n (L / 256 ^ (k + 4 - n))) := ⟨n, q1, HQ.out, hok.out, by unfold upN; rw [if_pos hx]⟩
          have HCO := Lib.hid hcode
          clear hx hcode
          go_wp2_with fail
          go_ret
          refine ⟨_, rfl, _, HCO.out, ?_⟩
          rw [digs_length]
          exact HA.tail.swap.tail
        · have hx : ¬ L % 256 ^ (k + 4 - n) = 0 := hmm.out.1 (by omega)
          have hcode : IsCode (k + 4) L R (digs n (L / 256 ^ (k + 4 - n) + 1)) := ⟨n, q1, HQ.out, hok.out, by unfold upN; rw [if_neg hx]⟩
          have hup := upN_lt q1 hok.out (by omega) i3
          have hup2 : L / 256 ^ (k + 4 - n) + 1 < 256 ^ n := by
            unfold upN at hup
            rw [if_neg hx] at hup
            exact hup
          have HCO := Lib.hid hcode
          have hm0 : 0 < m := by omega
          have CA := carry_calls hup2 (by omega) HA
          clear hx hcode hup hup2
          go_wp2_with fail
          refine CA.mono ?_
          rintro _ W2 ⟨⟨u, rfl⟩, HZ⟩
          have z0 := HZ.cell 0 rfl
          go_wp2_with fail
          go_ret
          refine ⟨_, rfl, _, HCO.out, ?_⟩
          rw [digs_length]
          exact HZ.tail.swap.tail)

end Go.Proofs.Ytbhpcpcpccmacaa

namespace Go.Proofs.Ytbhpcpcpccmacaa
open Go.RowKit Go.Shelf

theorem ret_bool4 {a b : Bool} (h : a = b) : Ending.returned (.bool a) = .returned (.bool b) := by rw [h]
theorem take_succ_eq4 {xs ys : List Nat} {k : Nat} (h1 : k < xs.length) (h2 : k < ys.length) (h : xs.take k = ys.take k) (e : xs[k] = ys[k]) : xs.take (k + 1) = ys.take (k + 1) := by
  rw [List.take_succ_eq_append_getElem h1, List.take_succ_eq_append_getElem h2, h, e]
theorem bv_at (l : List Nat) (i : Nat) (h : i < l.length) : (l.map bv)[i]? = some (.int .u8 (l[i] : Int)) := by
  simp [bv, List.getElem?_eq_getElem h]

/-- May a step come? -/
def RightS (cs : List Int) (s : Int) : Prop := Vt cs ∧ 0 ≤ s ∧ s < (cs.length : Int)
instance (cs : List Int) : Decidable (Vt cs) := by unfold Vt; exact inferInstance
instance (cs : List Int) (s : Int) : Decidable (RightS cs s) := by unfold RightS; exact inferInstance
theorem isum_le_mul {l : List Int} (h : ∀ x ∈ l, x ≤ 65536) : isum l ≤ 65536 * (l.length : Int) := by
  induction l with
  | nil => simp [isum]
  | cons x l ih =>
    have h1 := h x (by simp)
    have h2 := ih (fun y hy => h y (by simp [hy]))
    simp only [isum, List.length_cons]
    omega
theorem le_isum {l : List Int} (hp : ∀ x ∈ l, 1 ≤ x) : ∀ x ∈ l, x ≤ isum l := by
  induction l with
  | nil => intro x hx; cases hx
  | cons y l ih =>
    intro x hx
    have h2 := isum_nonneg (l := l) (fun z hz => hp z (by simp [hz]))
    simp only [isum]
    rcases List.mem_cons.1 hx with rfl | hx
    · omega
    · have := ih (fun z hz => hp z (by simp [hz])) x hx
      have := hp y (by simp)
      omega

set_option maxRecDepth 100000 in
set_option maxHeartbeats 1000000 in
theorem encode_range {b q : Nat} {s : Int} {x : Nat × Nat × Nat} {cs : List Int} {F : List HP} {w : World} (hv : Vt cs) (hs : s < 0 ∨ (cs.length : Int) ≤ s) (H : Sep w (EncI q x :: Tbl b cs :: F)) :
    Calls Try.prog 57 #[.pointer (some ⟨q, 0, none⟩), .pointer (some ⟨b, 0, none⟩), .int .i64 s] w fun e w' => e = .returned (.int .i64 2) ∧ w = w' := by
  have S1 := symbols_calls H.swap
  have hl := hv.1
  have h1 : ((cs.length : Int) == 0) = false := by simp; intro h; subst h; exact absurd hl (by simp)
  have h2 : ¬ cs = [] := by intro h; subst h; exact absurd hl (by simp)
  clear H hv
  by_cases h0 : s < 0
  · go_enter Try.func57, Try.ntmps57
    go_wp2_with fail
    refine S1.mono ?_
    rintro _ _ ⟨rfl, rfl⟩
    go_wp2_with fail
    go_ret
    exact ⟨rfl, rfl⟩
  · have h3 : (cs.length : Int) ≤ s := by omega
    go_enter Try.func57, Try.ntmps57
    go_wp2_with fail
    refine S1.mono ?_
    rintro _ _ ⟨rfl, rfl⟩
    go_wp2_with fail
    refine S1.mono ?_
    rintro _ _ ⟨rfl, rfl⟩
    go_wp2_with fail
    go_ret
    exact ⟨rfl, rfl⟩

set_option maxRecDepth 100000 in
theorem encode_tnil {q : Nat} {s : Int} {w : World} :
    Calls Try.prog 57 #[.pointer (some ⟨q, 0, none⟩), .pointer none, .int .i64 s] w fun e w' => e = .returned (.int .i64 1) ∧ w = w' := by
  go_enter Try.func57, Try.ntmps57
  go_wp2_with fail
  go_ret
  exact ⟨rfl, rfl⟩

end Go.Proofs.Ytbhpcpcpccmacaa
