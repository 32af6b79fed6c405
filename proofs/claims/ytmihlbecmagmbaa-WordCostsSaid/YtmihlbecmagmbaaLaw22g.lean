/- Law 22: WordCosts. -/
import Derived.Test.YtmihlbecmagmbaaLaw22a
import Derived.Test.YtmihlbecmagmbaaWord18
import Derived.Test.YtmihlbecmagmbaaWord20
import Derived.Test.YtmihlbecmagmbaaWord13
namespace Go.Proofs.Ytmihlbecmagmbaa
open Go.RowKit Go.Shelf

/-- The letters' numbers, and the loops'. -/
def sumI : List Int → Int
  | [] => 0
  | x :: l => x + sumI l
theorem st_counts : ∀ {l : List UInt8} {i t : List Int}, st l i = some t →
    (t.length : Int) = i.length + cnt l 69 - cnt l 83 ∧ sumI t = sumI i + 3 * cnt l 69 - cnt l 67 + cnt l 76 + cnt l 82 - cnt l 83 ∧
    (l.length : Int) = cnt l 67 + cnt l 83 + cnt l 82 + cnt l 76 + cnt l 69 ∧ ((wbits l).length : Int) = cnt l 67 + 3 * (cnt l 83 + cnt l 82 + cnt l 76 + cnt l 69)
  | [], i, t, h => by
    simp [st] at h
    subst h
    simp [cnt, wbits]
  | c :: l, i, t, h => by
    obtain ⟨k, s, h1, h2, h3⟩ := st_cons.1 h
    obtain ⟨g1, g2, g3, g4⟩ := st_counts h2
    have hw : (wbits (c :: l)).length = (codeL c).length + (wbits l).length := by simp [wbits]
    have hc := codeL_some h1
    have hn := kind_cases c
    rw [h1] at hn
    have hu : ∀ d : UInt8, c.toNat = d.toNat → c = d := fun d hd => UInt8.toNat_inj.1 hd
    have hcs : ∀ d, cnt (c :: l) d = cnt l d + (if c = d then 1 else 0) := fun d => by
      rw [cnt_cons, h1]; simp
    cases k with
    | C =>
      have e := hu 67 (by simpa using hn)
      rcases s with _ | ⟨x, s⟩ <;> simp [stepI] at h3
      subst h3
      rw [hw, hc, hcs, hcs, hcs, hcs, hcs, e]
      simp [sumI, Lt.bits] at *
      omega
    | R =>
      have e := hu 82 (by simpa using hn)
      rcases s with _ | ⟨x, s⟩ <;> simp [stepI] at h3
      subst h3
      rw [hw, hc, hcs, hcs, hcs, hcs, hcs, e]
      simp [sumI, Lt.bits] at *
      omega
    | L =>
      have e := hu 76 (by simpa using hn)
      rcases s with _ | ⟨x, s⟩ <;> simp [stepI] at h3
      subst h3
      rw [hw, hc, hcs, hcs, hcs, hcs, hcs, e]
      simp [sumI, Lt.bits] at *
      omega
    | E =>
      have e := hu 69 (by simpa using hn)
      simp [stepI] at h3
      subst h3
      rw [hw, hc, hcs, hcs, hcs, hcs, hcs, e]
      simp [sumI, Lt.bits] at *
      omega
    | S =>
      have e := hu 83 (by simpa using hn)
      rcases s with _ | ⟨x, _ | ⟨y, s⟩⟩ <;> simp [stepI] at h3
      subst h3
      rw [hw, hc, hcs, hcs, hcs, hcs, hcs, e]
      simp [sumI, Lt.bits] at *
      omega
theorem right_counts {l : List UInt8} (h : rightB l = true) : (cnt l 69 : Int) = cnt l 83 + 1 ∧ (cnt l 67 : Int) = 2 * cnt l 83 + cnt l 76 + cnt l 82 ∧ (cnt l 67 : Int) + cnt l 76 + cnt l 69 + cnt l 82 + cnt l 83 = l.length ∧ ((wbits l).length : Int) = 2 * l.length + 1 := by
  obtain ⟨h1, h2, h3, h4⟩ := st_counts (rightB_iff.1 h).1
  simp [sumI] at h1 h2
  omega

set_option maxRecDepth 100000 in
set_option maxHeartbeats 8000000 in
theorem law_WordCosts (a : Option Addr) (len cap : Nat) (z : List Int) {w : World} (hrow : IsRow .i64 w a len cap z) :
    Calls Try.prog 7 #[.slice a len cap] w fun e w' => e = .returned (.bool true) ∧ Below w.heap.size w w' := by
  obtain ⟨xs, hl, hx, hrd, -⟩ := hrow.ints
  subst hl
  clear hrow
  have H := Sep.start w
  have HRD : Hid (Reads [HP.old w.heap.size w] (.slice a xs.length cap) xs.length 1 (xs.map iv)) := Lib.hid (Reads.old hrd)
  clear hrd
  have HX := Lib.hid hx
  clear hx
  generalize hB : HP.old w.heap.size w = O at H HRD
  have HB := Lib.hid hB; clear hB
  by_cases hmany : 60 < xs.length
  · have hg := fun w1 (h : RdS w1 (.slice a xs.length cap) xs.length 1 (xs.map iv)) => grown_many (w := w1) hmany h
    have HG := Lib.hid hg
    clear hg
    go_enter Try.func7, Try.ntmps7
    go_wp2_with fail
    refine (awake22 H).mono ?_
    rintro e w1 ⟨rfl, H1⟩
    go_wp2_with fail
    refine (HG.out _ (HRD.out _ H1)).mono ?_
    rintro e w2 ⟨rfl, rfl⟩
    go_wp2_with fail
    go_ret
    subst HB
    exact ⟨rfl, H1.below⟩
  have HG := Lib.hid (fun w1 (h : Sep w1 [O]) => grown_calls HX.out (by omega) HRD.out h)
  go_enter Try.func7, Try.ntmps7
  go_wp2_with fail
  refine (awake22 H).mono ?_
  rintro e w1 ⟨rfl, H1⟩
  clear H
  go_wp2_with fail
  refine (HG.out _ H1).mono ?_
  rintro e w2 ⟨r, rfl, ⟨l, rfl, hr, hll⟩, H2⟩
  clear H1
  have hct := fun w1 (h : Sep w1 [O]) => count_calls (l := l) (by omega) h
  have hrt := fun w1 (R1 : List HP) (h : Sep w1 R1) => right_calls (l := l) (by omega) h
  rw [hr] at hrt
  have hcs := fun w1 (R1 : List HP) (h : Sep w1 R1) => wcost_calls (l := l) (by omega) h
  rw [right_cost hr] at hcs
  obtain ⟨k1, k2, k3, k4⟩ := right_counts hr
  rw [k4] at hcs
  have hss := str_size l
  have HCT := Lib.hid hct
  have HRT := Lib.hid hrt
  have HCS := Lib.hid hcs
  clear hct hrt hcs k4
  go_wp2_with fail
  refine (HCT.out _ H2).mono ?_
  rintro e w3 ⟨b, rfl, H3⟩
  go_wp2_with fail
  refine (HRT.out _ _ H3).mono ?_
  rintro e w4 ⟨rfl, H4⟩
  go_wp2_with fail
  refine (HCS.out _ _ H4).mono ?_
  rintro e w5 ⟨rfl, H5⟩
  have hown := H5.mp_owns
  obtain ⟨xC, rC, hat, _⟩ := hown.lookup_int (Maps.int_keyed Try.underlying5) Try.underlying34 Try.underlying3 (Try.zeroValue3 _) (key := .int .u8 67) (kl := .int .u8 67) (Maps.keyOf_int_mk Try.underlying5 (by decide))
  obtain rfl : xC = (cnt l 67 : Int) := congrArg num (hat.symm.trans (cntD_at l 67))
  clear hat
  obtain ⟨xS, rS, hat, _⟩ := hown.lookup_int (Maps.int_keyed Try.underlying5) Try.underlying34 Try.underlying3 (Try.zeroValue3 _) (key := .int .u8 83) (kl := .int .u8 83) (Maps.keyOf_int_mk Try.underlying5 (by decide))
  obtain rfl : xS = (cnt l 83 : Int) := congrArg num (hat.symm.trans (cntD_at l 83))
  clear hat
  obtain ⟨xL, rL, hat, _⟩ := hown.lookup_int (Maps.int_keyed Try.underlying5) Try.underlying34 Try.underlying3 (Try.zeroValue3 _) (key := .int .u8 76) (kl := .int .u8 76) (Maps.keyOf_int_mk Try.underlying5 (by decide))
  obtain rfl : xL = (cnt l 76 : Int) := congrArg num (hat.symm.trans (cntD_at l 76))
  clear hat
  obtain ⟨xR, rR, hat, _⟩ := hown.lookup_int (Maps.int_keyed Try.underlying5) Try.underlying34 Try.underlying3 (Try.zeroValue3 _) (key := .int .u8 82) (kl := .int .u8 82) (Maps.keyOf_int_mk Try.underlying5 (by decide))
  obtain rfl : xR = (cnt l 82 : Int) := congrArg num (hat.symm.trans (cntD_at l 82))
  clear hat
  obtain ⟨xE, rE, hat, _⟩ := hown.lookup_int (Maps.int_keyed Try.underlying5) Try.underlying34 Try.underlying3 (Try.zeroValue3 _) (key := .int .u8 69) (kl := .int .u8 69) (Maps.keyOf_int_mk Try.underlying5 (by decide))
  obtain rfl : xE = (cnt l 69 : Int) := congrArg num (hat.symm.trans (cntD_at l 69))
  clear hat
  have b1 := cnt_le l 67
  have b2 := cnt_le l 83
  have b3 := cnt_le l 76
  have b4 := cnt_le l 82
  have b5 := cnt_le l 69
  have t1 : ((cnt l 67 : Int) == 2 * (cnt l 83 : Int) + (cnt l 76 : Int) + (cnt l 82 : Int)) = true := by rw [beq_iff_eq]; omega
  have t2 : ((cnt l 69 : Int) == (cnt l 83 : Int) + 1) = true := by rw [beq_iff_eq]; omega
  have t3 : ((cnt l 67 : Int) + (cnt l 76 : Int) + (cnt l 69 : Int) + (cnt l 82 : Int) + (cnt l 83 : Int) == (l.length : Int)) = true := by rw [beq_iff_eq]; omega
  clear k1 k2 k3
  generalize cnt l 67 = nC at *
  generalize cnt l 83 = nS at *
  generalize cnt l 76 = nL at *
  generalize cnt l 82 = nR at *
  generalize cnt l 69 = nE at *
  go_wp2_with fail
  go_ret
  subst HB
  exact ⟨rfl, H5.tail.below⟩

end Go.Proofs.Ytmihlbecmagmbaa
