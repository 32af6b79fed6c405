/- Law 22: WordSpoilt. -/
import Derived.Test.YtmihlbecmagmbaaLaw22a
import Derived.Test.YtmihlbecmagmbaaWord16
import Derived.Test.YtmihlbecmagmbaaWord18
namespace Go.Proofs.Ytmihlbecmagmbaa
open Go.RowKit Go.Shelf

theorem right_pos {l : List UInt8} (h : rightB l = true) : 0 < l.length := by
  cases l with
  | nil => exact absurd h (by decide)
  | cons c l => simp
/-- No right word is a part of another one. -/
theorem right_part {a b : List UInt8} (h : rightB (a ++ b) = true) (hb : b ≠ []) : rightB a = false := by
  cases ha : rightB a with
  | false => rfl
  | true =>
    have h1 := right_miss ha
    have h2 := right_miss h
    rw [miss_append_of a b 1 0 h1] at h2
    cases b with
    | nil => exact absurd rfl hb
    | cons c b =>
      simp only [miss] at h2
      cases hk : kindOf c with
      | none => rw [hk] at h2; cases h2
      | some k => rw [hk] at h2; simp at h2
theorem right_more {a b : List UInt8} (h : rightB a = true) (hb : b ≠ []) : begB (a ++ b) = false := by
  cases hbg : begB (a ++ b) with
  | false => rfl
  | true =>
    obtain ⟨m, hm, _, _⟩ := right_of_beg hbg
    rw [miss_append_of a b 1 0 (right_miss h)] at hm
    cases b with
    | nil => exact absurd rfl hb
    | cons c b =>
      simp only [miss] at hm
      cases hk : kindOf c with
      | none => rw [hk] at hm; cases hm
      | some k => rw [hk] at hm; simp at hm
theorem beg_take {l : List UInt8} (h : rightB l = true) (i : Nat) : begB (l.take i) = true := beg_of_right (v := l.drop i) (by rw [List.take_append_drop]; exact h)
theorem least_cut {l : List UInt8} {k : Nat} (h : rightB l = true) (hk : k < l.length) : leastI (l.take k) = k := by
  have h1 : rightB (l.take k) = false := right_part (b := l.drop k) (by rw [List.take_append_drop]; exact h) (by intro e; have := congrArg List.length e; rw [List.length_drop] at this; simp at this; omega)
  unfold leastI
  rw [h1]
  have : leastK (l.take k) = k := leastK_of (by rw [List.length_take]; omega) (fun i hi => by rw [List.take_take]; exact beg_take h _) (fun hi => by rw [List.length_take] at hi; omega)
  rw [this]; rfl
theorem least_more {l : List UInt8} {x : UInt8} (h : rightB l = true) : leastI (l ++ [x]) = l.length := by
  have hb := right_more h (b := [x]) (by simp)
  have h1 : rightB (l ++ [x]) = false := by
    cases hr : rightB (l ++ [x]) with
    | false => rfl
    | true => have := right_beg hr; rw [hb] at this; cases this
  unfold leastI
  rw [h1]
  have : leastK (l ++ [x]) = l.length := leastK_of (by simp) (fun i hi => by
    rw [List.take_append_of_le_length (by omega)]; exact beg_take h _) (fun _ => by
    rw [List.take_of_length_le (by simp)]; exact hb)
  rw [this]; rfl
theorem least_ge {l u : List UInt8} {k : Nat} (h : rightB l = true) (hk : k ≤ l.length) : rightB (l.take k ++ u) = false → k ≤ leastK (l.take k ++ u) ∧ leastK (l.take k ++ u) ≤ (l.take k ++ u).length := by
  intro _
  obtain ⟨h1, h2, h3⟩ := leastK_spec (l.take k ++ u)
  refine ⟨?_, h1⟩
  rcases Nat.lt_or_ge (leastK (l.take k ++ u)) k with hlt | hge
  · exfalso
    have hl : (l.take k).length = k := by rw [List.length_take]; omega
    have := h3 (by rw [List.length_append]; omega)
    rw [List.take_append_of_le_length (by omega), List.take_take, beg_take h] at this
    cases this
  · exact hge

/-- The letter that a byte stands for. -/
def letter26 (x : Int) : UInt8 := UInt8.ofNat (65 + (x % 26).toNat)
theorem letter26_nat (x : Int) : ((letter26 x).toNat : Int) = 65 + x % 26 := by
  have : (letter26 x).toNat = 65 + (x % 26).toNat := by
    unfold letter26
    rw [UInt8.toNat_ofNat']
    omega
  rw [this]; omega

set_option maxRecDepth 100000 in
set_option maxHeartbeats 8000000 in
theorem law_WordSpoilt (a : Option Addr) (len cap : Nat) (z : List Int) {w : World} (hrow : IsRow .i64 w a len cap z) (pl : Int) (wp : (Lit.int .u8 pl).wf = true) (tb : Int) (wt : (Lit.int .u8 tb).wf = true) :
    Calls Try.prog 4 #[.slice a len cap, .int .u8 pl, .int .u8 tb] w fun e w' => e = .returned (.bool true) ∧ Below w.heap.size w w' := by
  have hp0 := (wf_u8 wp).1
  have hp1 := (wf_u8 wp).2
  have ht0 := (wf_u8 wt).1
  have ht1 := (wf_u8 wt).2
  clear wp wt
  obtain ⟨xs, hl, hx, hrd, -⟩ := hrow.ints
  subst hl
  clear hrow
  have H := Sep.start w
  have HRD : Hid (Reads [HP.old w.heap.size w] (.slice a xs.length cap) xs.length 1 (xs.map iv)) := Lib.hid (Reads.old hrd)
  clear hrd
  have HX := Lib.hid hx
  clear hx
  generalize hB : HP.old w.heap.size w = O at H HRD
  have HB := Lib.hid hB; clear hB
  by_cases hmany : 60 < xs.length
  · have hg := fun w1 (h : RdS w1 (.slice a xs.length cap) xs.length 1 (xs.map iv)) => grown_many (w := w1) hmany h
    have HG := Lib.hid hg
    clear hg
    go_enter Try.func4, Try.ntmps4
    go_wp2_with fail
    refine (awake22 H).mono ?_
    rintro e w1 ⟨rfl, H1⟩
    go_wp2_with fail
    refine (HG.out _ (HRD.out _ H1)).mono ?_
    rintro e w2 ⟨rfl, rfl⟩
    go_wp2_with fail
    go_ret
    subst HB
    exact ⟨rfl, H1.below⟩
  have HG := Lib.hid (fun w1 (h : Sep w1 [O]) => grown_calls HX.out (by omega) HRD.out h)
  by_cases hfew : 40 < xs.length
  · go_enter Try.func4, Try.ntmps4
    go_wp2_with fail
    refine (awake22 H).mono ?_
    rintro e w1 ⟨rfl, H1⟩
    go_wp2_with fail
    refine (HG.out _ H1).mono ?_
    rintro e w2 ⟨r, rfl, ⟨l, rfl, hr, hll⟩, H2⟩
    go_wp2_with fail
    go_ret
    subst HB
    exact ⟨rfl, H2.below⟩
  go_enter Try.func4, Try.ntmps4
  go_wp2_with fail
  refine (awake22 H).mono ?_
  rintro e w1 ⟨rfl, H1⟩
  clear H
  go_wp2_with fail
  refine (HG.out _ H1).mono ?_
  rintro e w2 ⟨r, rfl, ⟨l, rfl, hr, hll⟩, H2⟩
  clear H1
  have hpos := right_pos hr
  have hss := str_size l
  have hlI : (0 : Int) < (l.length : Int) := by omega
  obtain ⟨k, hk⟩ : ∃ k : Nat, pl % (l.length : Int) = (k : Int) := ⟨(pl % (l.length : Int)).toNat, by have := Int.emod_nonneg pl (show (l.length : Int) ≠ 0 by omega); omega⟩
  have hkl : k < l.length := by have := Int.emod_lt_of_pos pl hlI; omega
  have hex1 : (str l).extract 0 k = str (l.take k) := by rw [str_extract, List.drop_zero]
  have hex2 : (str l).extract (k + 1) l.length = str (l.drop (k + 1)) := by rw [str_extract, List.take_length]
  have hln := letter26_nat tb
  have henc : Utf8.encode (65 + tb % 26) = str [letter26 tb] := by
    have := encode_ascii (x := letter26 tb) (by have := hln; omega)
    rw [hln] at this; exact this
  have hcut := fun (w1 : World) (h : Sep w1 [O]) => least_calls (l := l.take k) (by rw [List.length_take]; omega) h
  rw [least_cut hr hkl] at hcut
  have hmore := fun (w1 : World) (h : Sep w1 [O]) => least_calls (l := l ++ [letter26 tb]) (by simp; omega) h
  rw [least_more hr] at hmore
  obtain ⟨v, hv⟩ : ∃ v, v = l.take k ++ (letter26 tb :: l.drop (k + 1)) := ⟨_, rfl⟩
  have hvl : v.length = l.length := by rw [hv]; simp; omega
  have hlv := fun (w1 : World) (h : Sep w1 [O]) => least_calls (l := v) (by omega) h
  have hrv := fun (w1 : World) (h : Sep w1 [O]) => right_calls (l := v) (by omega) h
  have hca1 : str l ++ str [letter26 tb] = str (l ++ [letter26 tb]) := str_append _ _
  have hca2 : (str (l.take k) ++ str [letter26 tb]) ++ str (l.drop (k + 1)) = str v := by rw [str_append, str_append, hv, List.append_assoc]; rfl
  have hz1 := str_size (l.take k)
  have hz2 := str_size [letter26 tb]
  have hz3 := str_size (l.drop (k + 1))
  have hz4 := str_size v
  rw [List.length_take] at hz1
  rw [List.length_drop] at hz3
  have hge := fun h => least_ge (u := letter26 tb :: l.drop (k + 1)) hr (Nat.le_of_lt hkl) h
  rw [← hv] at hge
  have hli : leastI v = if rightB v then -1 else (leastK v : Int) := rfl
  have HCUT := Lib.hid hcut
  have HMORE := Lib.hid hmore
  have HLV := Lib.hid hlv
  have HRV := Lib.hid hrv
  have HGE := Lib.hid hge
  have HLI := Lib.hid hli
  have HC2 := Lib.hid hca2
  have hs1 : (str l).size ≤ 200 := by omega
  have hs2 : (str (l.take k)).size ≤ 200 := by omega
  have hs3 : (str (l.drop (k + 1))).size ≤ 200 := by omega
  have hs4 : (str [letter26 tb]).size ≤ 1 := by rw [hz2]; simp
  have hs5 : (str (l.take k) ++ str [letter26 tb]).size ≤ 201 := by rw [str_append, str_size]; simp; omega
  have hkI : (k : Int) < (l.length : Int) := by omega
  clear hcut hmore hlv hrv hge hli hv hln hmany hz1 hz2 hz3
  go_wp2_with fail
  refine (HCUT.out _ H2).mono ?_
  rintro e w3 ⟨rfl, H3⟩
  go_wp2_with fail
  refine (HMORE.out _ H3).mono ?_
  rintro e w4 ⟨rfl, H4⟩
  go_wp2_with fail
  (refine wp_region_quiet_lit (by kernel_rfl) (by kernel_rfl) ?_; (repeat (first | go_big_quiet_skip | (go_big_quiet_want; go_big_quiet_op; (try go_bits); first | go_big_quiet_on | go_big_quiet_call ((fail))))); refine wpQuiet_nil ?_; intro _ hw'; obtain ⟨nq, hw''⟩ := hw'; subst hw'')
  have H5 := H4.drewN nq
  generalize w4.drewN nq = w5 at H5 ⊢
  clear H4
  go_wp2_with fail
  refine (HLV.out _ H5).mono ?_
  rintro e w6 ⟨rfl, H6⟩
  have hl2 := HLI.out
  have hrv := HRV.out
  cases hrb : rightB v with
  | true =>
    rw [hrb, if_pos rfl] at hl2
    rw [hrb] at hrv
    have HRV2 := Lib.hid hrv
    rw [hl2]
    clear hl2 hrv hrb
    go_wp2_with fail
    refine (HRV2.out _ H6).mono ?_
    rintro e w7 ⟨rfl, H7⟩
    go_wp2_with fail
    go_ret
    subst HB
    exact ⟨rfl, H7.below⟩
  | false =>
    obtain ⟨g1, g2⟩ := HGE.out hrb
    rw [hrb, if_neg (by simp)] at hl2
    rw [hl2]
    clear hl2 hrv hrb
    generalize leastK v = j at *
    have e1 : ((j : Int) == -1) = false := by first | (simp; done) | (simp; omega)
    have e2 : (k : Int) ≤ (j : Int) := by omega
    have e3 : (j : Int) ≤ ((str v).size : Int) := by omega
    have e4 : j ≤ l.length := by omega
    have e5 : decide (j ≤ l.length) = true := decide_eq_true e4
    go_wp2_with fail
    go_ret
    subst HB
    exact ⟨rfl, H6.below⟩

end Go.Proofs.Ytmihlbecmagmbaa
