/- coder: steps; code. -/
import Derived.Test.YtglinpclcmmnbaaCod6
namespace Go.Proofs.Ytglinpclcmmnbaa
open Go.RowKit Go.Shelf

/-- A step: the value of its counts, the counts, the symbol. -/
abbrev Stp := Value × List Int × Int
def stpCells (its : List Stp) : List Value := its.flatMap fun p => [p.1, .int .i64 p.2.2]
theorem stp_get {its : List Stp} {i : Nat} (h : i < its.length) : (stpCells its)[i * 2]? = some its[i].1 ∧ (stpCells its)[i * 2 + 1]? = some (.int .i64 its[i].2.2) := by
  induction its generalizing i with
  | nil => simp at h
  | cons x its ih =>
    cases i with
    | zero => exact ⟨rfl, rfl⟩
    | succ i =>
      have hi : i < its.length := by simpa using h
      have := ih hi
      simp only [stpCells, List.flatMap_cons, List.getElem_cons_succ] at this ⊢
      have e1 : (i + 1) * 2 = (i * 2) + 2 := by omega
      rw [e1]
      exact this
/-- A row of steps that can be read. -/
def StpRd (F : List HP) (v : Value) (its : List Stp) : Prop := Reads F v its.length 2 (stpCells its) ∧ ∀ p ∈ its, Reads F p.1 p.2.1.length 1 (p.2.1.map iv)
theorem StpRd.cons {F : List HP} {v : Value} {its : List Stp} {X : HP} (h : StpRd F v its) : StpRd (X :: F) v its := ⟨h.1.cons, fun p hp => (h.2 p hp).cons⟩
/-- The interval behind some steps. -/
def runI (x : Nat × Nat × Nat) (its : List Stp) : Nat × Nat × Nat := its.foldl (fun x p => stepI x p.2.1 p.2.2.toNat) x
def firstI : Nat × Nat × Nat := (0, 0, 4294967296)
theorem firstI_iv : IvI firstI := ⟨by decide, by decide, by decide⟩
theorem runI_snoc (x : Nat × Nat × Nat) (l : List Stp) (p : Stp) : runI x (l ++ [p]) = stepI (runI x l) p.2.1 p.2.2.toNat := by simp [runI]
theorem stepI_ok {x : Nat × Nat × Nat} {cs : List Int} {s : Int} (hI : IvI x) (h : RightS cs s) : IvI (stepI x cs s.toNat) ∧ (stepI x cs s.toNat).1 ≤ x.1 + 2 := by
  obtain ⟨k, L, R⟩ := x
  exact stepI_iv hI h.1 (by have := h.2; omega)
theorem runI_ok {x : Nat × Nat × Nat} {its : List Stp} (hI : IvI x) (h : ∀ p ∈ its, RightS p.2.1 p.2.2) : IvI (runI x its) ∧ (runI x its).1 ≤ x.1 + 2 * its.length := by
  induction its using rev_ind with
  | h0 => exact ⟨hI, Nat.le_refl _⟩
  | h1 l p ih =>
    obtain ⟨a1, a2⟩ := ih (fun q hq => h q (by simp [hq]))
    obtain ⟨b1, b2⟩ := stepI_ok a1 (h p (by simp))
    rw [runI_snoc]
    exact ⟨b1, by simp only [List.length_append, List.length_singleton]; omega⟩
theorem runI_take {x : Nat × Nat × Nat} {its : List Stp} {t : Nat} (h : t < its.length) : runI x (its.take (t + 1)) = stepI (runI x (its.take t)) its[t].2.1 its[t].2.2.toNat := by
  rw [List.take_succ_eq_append_getElem h, runI_snoc]

def GreatPost (its : List Stp) (F : List HP) (e : Ending) (w' : World) : Prop := ∃ b, e = .returned (.bool b) ∧ Hid (b = false → its.length ≤ 60 ∧ ∀ p ∈ its, p.2.1.length ≤ 20 ∧ RightS p.2.1 p.2.2) ∧ Sep w' F
set_option maxRecDepth 100000 in
set_option maxHeartbeats 4000000 in
theorem great_calls {v : Value} {its : List Stp} {F : List HP} {w : World} (hrd : StpRd F v its) (H : Sep w F) :
    Calls Try.prog 35 #[v] w (GreatPost its F) := by
  obtain ⟨hrd, hel⟩ := hrd
  obtain ⟨a, cap, rfl⟩ := (hrd w H).form
  have HEL := Lib.hid hel
  clear hel
  by_cases h0 : 60 < its.length
  · go_enter Try.func35, Try.ntmps35
    go_wp2_with fail
    go_ret
    exact ⟨true, rfl, Lib.hid fun h => (by cases h), H⟩
  go_enter Try.func35, Try.ntmps35
  go_wp2_with fail
  go_loopg [3] its.length (fun gk i wr => ∃ t : Nat, Hid (t ≤ its.length ∧ gk = its.length - t) ∧ Hid (∀ p ∈ its.take t, p.2.1.length ≤ 20 ∧ RightS p.2.1 p.2.2) ∧ i = .int .i64 (t : Int) ∧ Sep wr F)
  case atStart => exact ⟨0, Lib.hid ⟨by omega, rfl⟩, Lib.hid (by simp), rfl, H⟩
  case round =>
    clear H
    obtain ⟨t, hq, hh, rfl, Hr⟩ := hrel
    obtain ⟨q1, q2⟩ := hq.out
    clear hq
    by_cases c : t < its.length
    · obtain ⟨g, o, cap', he⟩ := (hrd _ Hr).open (by omega)
      simp only [Value.slice.injEq, true_and] at he
      obtain ⟨rfl, rfl⟩ := he
      obtain ⟨s0, s1⟩ := stp_get c
      have k0 := (hrd _ Hr).cell (t * 2) s0
      have k1 := (hrd _ Hr).cell (t * 2 + 1) s1
      have hr1 := HEL.out _ (List.getElem_mem c)
      have HT := Lib.hid (List.take_succ_eq_append_getElem c)
      have hti : (t : Int) < (its.length : Int) := by omega
      clear s0 s1
      generalize its[t] = p at *
      obtain ⟨sv, cs, s⟩ := p
      simp only at k0 k1 hr1
      obtain ⟨sa, sc, rfl⟩ := (hr1 _ Hr).form
      by_cases h20 : 20 < cs.length
      · go_wp2_with fail
        go_ret
        exact ⟨true, rfl, Lib.hid fun h => (by cases h), Hr⟩
      · have hk1 : wr.cell? ⟨g, o + t * 2 + 1, none⟩ = some (.int .i64 s) := by rw [← Nat.add_assoc] at k1; exact k1
        have RC := right_calls (s := s) (by omega) hr1 Hr
        by_cases hR : RightS cs s
        · rw [decide_eq_true hR] at RC
          have HN : Hid (∀ y ∈ its.take (t + 1), y.2.1.length ≤ 20 ∧ RightS y.2.1 y.2.2) := Lib.hid (by
            rw [HT.out]
            intro y hy
            rcases List.mem_append.1 hy with hy | hy
            · exact hh.out y hy
            · obtain rfl : y = _ := by simpa using hy
              exact ⟨by simp only; omega, hR⟩)
          clear hR
          go_wp2_with fail
          refine RC.mono ?_
          rintro _ w2 ⟨rfl, H2⟩
          go_wp2_with fail
          go_roundg (its.length - (t + 1))
          case rel => exact ⟨t + 1, Lib.hid ⟨by omega, rfl⟩, HN, by go_num, H2⟩
          case measure => omega
        · rw [decide_eq_false hR] at RC
          clear hR
          go_wp2_with fail
          refine RC.mono ?_
          rintro _ w2 ⟨rfl, H2⟩
          go_wp2_with fail
          go_ret
          exact ⟨true, rfl, Lib.hid fun h => (by cases h), H2⟩
    · obtain rfl : t = its.length := by omega
      have hall := hh.out
      rw [List.take_length] at hall
      have HA := Lib.hid hall
      clear hall hh
      go_wp2_with fail
      go_ret
      exact ⟨false, rfl, Lib.hid fun _ => ⟨by omega, HA.out⟩, Hr⟩

set_option maxRecDepth 100000 in
set_option maxHeartbeats 4000000 in
theorem code_calls {v : Value} {its : List Stp} {F : List HP} {w : World} (hlen : its.length ≤ 60) (hok : ∀ p ∈ its, RightS p.2.1 p.2.2) (hrd : StpRd F v its) (H : Sep w F) :
    Calls Try.prog 44 #[v] w (Gives fun r w' => ∃ u c, r = .tuple #[u, .bool true] ∧ IsCode ((runI firstI its).1 + 4) (runI firstI its).2.1 (runI firstI its).2.2 c ∧ Sep w' (HP.row 5 1 u c.length (c.map bv) :: F)) := by
  obtain ⟨hrd, hel⟩ := hrd
  obtain ⟨a, cap, rfl⟩ := (hrd w H).form
  have HEL := Lib.hid hel
  have HOK := Lib.hid hok
  clear hel hok
  go_enter Try.func44, Try.ntmps44
  go_wp2_with fail
  refine (cnew_calls H).mono ?_
  rintro _ w1 ⟨q, rfl, H1⟩
  clear H
  go_wp2_with fail
  go_loopg [5] its.length (fun gk i wr => ∃ t : Nat, Hid (t ≤ its.length ∧ gk = its.length - t) ∧ i = .int .i64 (t : Int) ∧ Sep wr (EncI q (runI firstI (its.take t)) :: F))
  case atStart => exact ⟨0, Lib.hid ⟨by omega, rfl⟩, rfl, H1⟩
  case round =>
    clear H1
    obtain ⟨t, hq, rfl, Hr⟩ := hrel
    obtain ⟨q1, q2⟩ := hq.out
    clear hq
    obtain ⟨hI, hkk⟩ := runI_ok (x := firstI) (its := its.take t) firstI_iv (fun p hp => HOK.out p (List.mem_of_mem_take hp))
    have hk : (runI firstI (its.take t)).1 ≤ 1000 := by
      have : (its.take t).length ≤ t := by simp; omega
      have : firstI.1 = 0 := rfl
      omega
    clear hkk
    by_cases c : t < its.length
    · have HST := Lib.hid (runI_take (x := firstI) c)
      obtain ⟨g, o, cap', he⟩ := (hrd _ Hr.tail).open (by omega)
      simp only [Value.slice.injEq, true_and] at he
      obtain ⟨rfl, rfl⟩ := he
      obtain ⟨s0, s1⟩ := stp_get c
      have hr1 := HEL.out _ (List.getElem_mem c)
      have hR := HOK.out _ (List.getElem_mem c)
      have hti : (t : Int) < (its.length : Int) := by omega
      generalize runI firstI (its.take t) = x at *
      generalize its[t] = p at *
      obtain ⟨sv, cs, s⟩ := p
      obtain ⟨hv, hs1, hs2⟩ := hR
      simp only at s0 s1 hr1 hv hs1 hs2 HST
      obtain ⟨s, rfl⟩ := Int.eq_ofNat_of_zero_le hs1
      rw [Int.toNat_natCast] at HST
      obtain ⟨sa, sc, rfl⟩ := (hr1 _ Hr.tail).form
      have HC0 : Hid (∀ w', Sep w' F → w'.cell? ⟨g, o + t * 2, none⟩ = some (.slice sa cs.length sc)) := Lib.hid fun w' h => (hrd _ h).cell (t * 2) s0
      have HC1 : Hid (∀ w', Sep w' F → w'.cell? ⟨g, o + t * 2 + 1, none⟩ = some (.int .i64 (s : Int))) := Lib.hid fun w' h => (hrd _ h).cell (t * 2 + 1) s1
      clear s0 s1
      have k0 := HC0.out _ Hr.tail
      have k1 := HC1.out _ Hr.tail
      have hs : s < cs.length := by omega
      have HM := Lib.hid (made_calls hv (Reads.cons (X := EncI q x) hr1) Hr.drew)
      have HV := Lib.hid hv
      clear hv hr1
      go_wp2_with fail
      go_region_held3 (fun w' => w'.cell? ⟨g, o + t * 2, none⟩ = some (.slice sa cs.length sc) ∧ w'.cell? ⟨g, o + t * 2 + 1, none⟩ = some (.int .i64 (s : Int))) (first | exact ⟨k0, k1⟩ | exact ⟨HC0.out _ H5.tail.tail, HC1.out _ H5.tail.tail⟩ | exact ⟨HC0.out _ H7.tail.tail, HC1.out _ H7.tail.tail⟩) (first | (go_at_call 39; refine HM.out.mono ?_; rintro _ w5 ⟨_, rfl, b, rfl, H5⟩) | (go_at_call 38; refine (encode_ok hI hk HV.out hs H5.swap).mono ?_; rintro _ w7 ⟨rfl, H7⟩))
      rw [← HST.out] at H7
      go_wp2_with fail
      go_roundg (its.length - (t + 1))
      case rel => exact ⟨t + 1, Lib.hid ⟨by omega, rfl⟩, by go_num, H7.swap.tail⟩
      case measure => omega
    · obtain rfl : t = its.length := by omega
      rw [List.take_length] at Hr hI hk
      generalize hx : runI firstI its = x at *
      have HX := Lib.hid hx
      clear hx
      go_wp2_with fail
      refine (finish_calls hI hk Hr).mono ?_
      rintro _ w2 ⟨r, rfl, cd, hc, H2⟩
      go_wp2_with fail
      go_ret2
      exact ⟨_, rfl, _, _, rfl, by rw [HX.out]; exact hc, H2.swap.tail⟩

end Go.Proofs.Ytglinpclcmmnbaa
