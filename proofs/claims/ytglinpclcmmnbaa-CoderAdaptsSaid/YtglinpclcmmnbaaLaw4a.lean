/- Law 04: CoderGoes. -/
import Derived.Test.YtglinpclcmmnbaaCod8
import Derived.Test.YtglinpclcmmnbaaSteps
namespace Go.Proofs.Ytglinpclcmmnbaa
open Go.RowKit Go.ChangeShapes Go.WideShapes Go.Deep Go.Shelf

def boolv (b : Bool) : Value := .bool b
def BoolsOk (w : World) (v : Value) (bs : List Bool) : Prop := RdS w v bs.length 1 (bs.map boolv)
theorem open_bools {H : Type} {enc : TypeId × Value → H} {w : World} {base b0 : Nat} {spare : Nat → Bool} {held : Bool} {r : Reach} {v : Value} {d : DataW H} {p : List MemPlace}
    (hv : Value.okWide Try.prog w r b0 65 v) (h : DataW.Trod enc Try.prog w base spare held 65 v d p) : ∃ bs, BoolsOk w v bs := by
  obtain ⟨a, len, cap, rfl⟩ := okWide_slice Try.underlying65 hv
  obtain ⟨fuel, hf⟩ := h
  rcases open_slice1 Try.underlying65 (by kernel_rfl) hf with ⟨hcs, _⟩ | ⟨ad, len', cap', m, n, V, D, Pl, hcs, _, hl, hm, hmm, _, hi⟩
  · simp [Value.cells] at hcs
    obtain ⟨rfl, rfl, rfl⟩ := hcs
    exact ⟨[], rfl, .inl ⟨rfl, rfl⟩⟩
  · simp [Value.cells] at hcs
    obtain ⟨rfl, rfl, rfl⟩ := hcs
    have hlm : len ≤ m := by rw [hmm]; split <;> omega
    have hx : ∀ i : Nat, ∃ b : Bool, i < len → w.cell? (ad.add i) = some (.bool b) := by
      intro i
      by_cases hlt : i < len
      · obtain ⟨h1, h2⟩ := hi i (by omega)
        obtain ⟨b, e1, -⟩ := DataW.trod_bool Try.underlying4 h2
        simp at e1
        exact ⟨b, fun _ => by rw [h1, e1]⟩
      · exact ⟨false, fun h => absurd h hlt⟩
    obtain ⟨f, hf2⟩ := Classical.axiomOfChoice hx
    refine ⟨(List.range len).map f, by simp, .inr ⟨ad, cap, by simp, fun j u hu => ?_⟩⟩
    have hj : j < len := by
      rcases Nat.lt_or_ge j len with h | h
      · exact h
      · rw [List.getElem?_eq_none (by simpa using h)] at hu; cases hu
    simp [hj, boolv] at hu
    rw [← hu]
    exact hf2 j hj

theorem boolv_at (l : List Bool) (i : Nat) (h : i < l.length) : (l.map boolv)[i]? = some (.bool l[i]) := by
  simp [boolv, List.getElem?_eq_getElem h]
theorem bv_set (l : List Nat) (i y : Nat) : (l.map bv).set i (.int .u8 (y : Int)) = (l.set i y).map bv := by
  rw [List.map_set]; rfl

set_option maxRecDepth 100000 in
set_option maxHeartbeats 8000000 in
theorem law_CoderGoes (v : Value) (its : List Stp) {w : World} (hits : StpOk w v its) (v2 : Value) (bs : List Bool) (hbs : BoolsOk w v2 bs) :
    Calls Try.prog 13 #[v, v2] w fun e w' => e = .returned (.bool true) ∧ Below w.heap.size w w' := by
  have hrd := hits.rd
  have hrb : Reads [HP.old w.heap.size w] v2 bs.length 1 (bs.map boolv) := Reads.old hbs
  obtain ⟨va, vc, rfl⟩ := hits.1.form
  obtain ⟨ba, bc, rfl⟩ := hbs.form
  clear hits hbs
  have H := Sep.start w
  generalize hB : HP.old w.heap.size w = O at H hrd hrb
  have HB := Lib.hid hB; clear hB
  go_enter Try.func13, Try.ntmps13
  go_wp2_with fail
  refine (awake4 H).mono ?_
  rintro e w1 ⟨rfl, H1⟩
  clear H
  go_wp2_with fail
  refine (great_calls hrd H1).mono ?_
  rintro e w2 ⟨b, rfl, hg, H2⟩
  clear H1
  cases b with
  | true =>
    go_wp2_with fail
    go_ret
    subst HB
    exact ⟨rfl, H2.below⟩
  | false =>
    obtain ⟨hlen, hok⟩ := hg.out rfl
    have hok := fun p hp => (hok p hp).2
    clear hg
    have CC := fun x q w' (h : Sep w' (EncI q x :: [O])) => code_calls hlen hok hrd.cons h
    have HCC := Lib.hid CC
    obtain ⟨hrd, hel⟩ := hrd
    have HEL := Lib.hid hel
    have HOK := Lib.hid hok
    clear hel hok CC
    go_wp2_with fail
    refine (cnew_calls H2).mono ?_
    rintro _ w3 ⟨q, rfl, H3⟩
    clear H2
    go_wp2_with fail
    go_loopg [6] its.length (fun gk i wr => ∃ t : Nat, Hid (t ≤ its.length ∧ gk = its.length - t) ∧ i = .int .i64 (t : Int) ∧ Sep wr (EncI q (runI firstI (its.take t)) :: [O]))
    case atStart => exact ⟨0, Lib.hid ⟨by omega, rfl⟩, rfl, H3⟩
    case round =>
      clear H3
      obtain ⟨t, hq, rfl, Hr⟩ := hrel
      obtain ⟨q1, q2⟩ := hq.out
      clear hq
      obtain ⟨hI, hkk⟩ := runI_ok (x := firstI) (its := its.take t) firstI_iv (fun p hp => HOK.out p (List.mem_of_mem_take hp))
      have hk : (runI firstI (its.take t)).1 ≤ 1000 := by
        have : (its.take t).length ≤ t := by simp; omega
        have : firstI.1 = 0 := rfl
        omega
      clear hkk
      by_cases c : t < its.length
      · have HST := Lib.hid (runI_take (x := firstI) c)
        obtain ⟨hI2, hkk⟩ := runI_ok (x := firstI) (its := its.take (t + 1)) firstI_iv (fun p hp => HOK.out p (List.mem_of_mem_take hp))
        have hk2 : (runI firstI (its.take (t + 1))).1 ≤ 1000 := by
          have : (its.take (t + 1)).length ≤ t + 1 := by simp; omega
          have : firstI.1 = 0 := rfl
          omega
        clear hkk
        obtain ⟨g, o, cap', he⟩ := (hrd _ Hr.tail).open (by omega)
        simp only [Value.slice.injEq, true_and] at he
        obtain ⟨rfl, rfl⟩ := he
        obtain ⟨s0, s1⟩ := stp_get c
        have hr1 := HEL.out _ (List.getElem_mem c)
        have hR := HOK.out _ (List.getElem_mem c)
        have hti : (t : Int) < (its.length : Int) := by omega
        generalize runI firstI (its.take t) = x at *
        generalize its[t] = p at *
        obtain ⟨sv, cs, s⟩ := p
        obtain ⟨hv, hs1, hs2⟩ := hR
        simp only at s0 s1 hr1 hv hs1 hs2 HST
        obtain ⟨s, rfl⟩ := Int.eq_ofNat_of_zero_le hs1
        rw [Int.toNat_natCast] at HST
        obtain ⟨sa, sc, rfl⟩ := (hr1 _ Hr.tail).form
        have HC0 : Hid (∀ w', Sep w' [O] → w'.cell? ⟨g, o + t * 2, none⟩ = some (.slice sa cs.length sc)) := Lib.hid fun w' h => (hrd _ h).cell (t * 2) s0
        have HC1 : Hid (∀ w', Sep w' [O] → w'.cell? ⟨g, o + t * 2 + 1, none⟩ = some (.int .i64 (s : Int))) := Lib.hid fun w' h => (hrd _ h).cell (t * 2 + 1) s1
        clear s0 s1
        have k0 := HC0.out _ Hr.tail
        have k1 := HC1.out _ Hr.tail
        have hs : s < cs.length := by omega
        have HM := Lib.hid (made_calls hv (Reads.cons (X := EncI q x) hr1) Hr.drew)
        have HV := Lib.hid hv
        clear hv hr1
        go_wp2_with fail
        go_region_held3 (fun w' => w'.cell? ⟨g, o + t * 2, none⟩ = some (.slice sa cs.length sc) ∧ w'.cell? ⟨g, o + t * 2 + 1, none⟩ = some (.int .i64 (s : Int))) (first | exact ⟨k0, k1⟩ | exact ⟨HC0.out _ H5.tail.tail, HC1.out _ H5.tail.tail⟩ | exact ⟨HC0.out _ H7.tail.tail, HC1.out _ H7.tail.tail⟩) (first | (go_at_call 39; refine HM.out.mono ?_; rintro _ w5 ⟨_, rfl, b, rfl, H5⟩) | (go_at_call 38; refine (encode_ok hI hk HV.out hs H5.swap).mono ?_; rintro _ w7 ⟨rfl, H7⟩))
        rw [← HST.out] at H7
        have H8 := H7.swap.tail
        clear k0 k1 H7 H5 HC0 HC1 HM HV HST hI hk Hr
        by_cases hask : ∃ h : t < bs.length, bs[t] = true
        · obtain ⟨cb, hb⟩ := hask
          obtain ⟨gb, ob, capb, he⟩ := (hrb _ H8.tail).open (by omega)
          simp only [Value.slice.injEq, true_and] at he
          obtain ⟨rfl, rfl⟩ := he
          have kb := (hrb _ H8.tail).cell t (boolv_at bs t cb)
          rw [hb] at kb
          have hcb : (t : Int) < (bs.length : Int) := by omega
          go_wp2_with fail
          refine (finish_calls hI2 hk2 H8).mono ?_
          rintro _ w9 ⟨r, rfl, cd, hcd, H9⟩
          obtain ⟨ra, rc, rfl⟩ := H9.row_form
          have hcl : ∀ d ∈ cd, d < 256 := by obtain ⟨n, -, -, -, rfl⟩ := hcd; exact digs_lt _ _
          have hcn : cd.length ≤ 1010 := by obtain ⟨n, hn, -, -, rfl⟩ := hcd; rw [digs_length]; omega
          clear hcd H8 kb
          go_wp2_with fail
          go_loopg [8] cd.length (fun gk2 i2 wr2 => ∃ (j : Nat) (l : List Nat), Hid (j ≤ cd.length ∧ gk2 = cd.length - j ∧ l.length = cd.length ∧ ∀ d ∈ l, d < 256) ∧ i2 = .int .i64 (j : Int) ∧ Sep wr2 (HP.row 5 1 (.slice ra cd.length rc) cd.length (l.map bv) :: EncI q (runI firstI (its.take (t + 1))) :: [O]))
          case atStart => exact ⟨0, cd, Lib.hid ⟨by omega, rfl, rfl, hcl⟩, rfl, H9⟩
          case round =>
            clear H9 hcl
            obtain ⟨j, l, hq, rfl, Hr2⟩ := hrel
            obtain ⟨p1, p2, p3, p4⟩ := hq.out
            clear hq
            by_cases cj : j < cd.length
            · obtain ⟨gr, capr, _, hsv, -⟩ := Hr2.row_open (by omega)
              simp only [Value.slice.injEq, true_and] at hsv
              obtain ⟨rfl, rfl⟩ := hsv
              have kj := Hr2.row_cell j (bv_at l j (by omega))
              have fj := Hr2.row_froz j
              have hd := p4 _ (List.getElem_mem (show j < l.length by omega))
              have HL := Lib.hid p4
              have hji : (j : Int) < (cd.length : Int) := by omega
              generalize l[j] = d at *
              have H10 := Hr2.row_set j (.int .u8 (((d + 1) % 256 : Nat) : Int))
              rw [bv_set] at H10
              have e1 : (((d + 1) % 256 : Nat) : Int) = ((d : Int) + 1) % 256 := by omega
              rw [e1] at H10
              have HLL : Hid (∀ z ∈ l.set j ((d + 1) % 256), z < 256) := Lib.hid fun z hz => by
                rcases List.mem_or_eq_of_mem_set hz with h | rfl
                · exact HL.out z h
                · omega
              clear e1 p4
              go_wp2_with fail
              go_roundg (cd.length - (j + 1))
              case rel => exact ⟨j + 1, l.set j ((d + 1) % 256), Lib.hid ⟨by omega, rfl, by rw [List.length_set]; exact p3, HLL.out⟩, by go_num, H10⟩
              case measure => omega
            · go_wp2_with fail
              go_roundg (its.length - (t + 1))
              case rel => exact ⟨t + 1, Lib.hid ⟨by omega, rfl⟩, by go_num, Hr2.tail⟩
              case measure => omega
        · by_cases cb : t < bs.length
          · have hb : bs[t] = false := by
              cases h : bs[t] with
              | false => rfl
              | true => exact absurd ⟨cb, h⟩ hask
            obtain ⟨gb, ob, capb, he⟩ := (hrb _ H8.tail).open (by omega)
            simp only [Value.slice.injEq, true_and] at he
            obtain ⟨rfl, rfl⟩ := he
            have kb := (hrb _ H8.tail).cell t (boolv_at bs t cb)
            rw [hb] at kb
            have hcb : (t : Int) < (bs.length : Int) := by omega
            clear hask
            go_wp2_with fail
            go_roundg (its.length - (t + 1))
            case rel => exact ⟨t + 1, Lib.hid ⟨by omega, rfl⟩, by go_num, H8⟩
            case measure => omega
          · have hcb : ¬ (t : Int) < (bs.length : Int) := by omega
            clear hask
            go_wp2_with fail
            go_roundg (its.length - (t + 1))
            case rel => exact ⟨t + 1, Lib.hid ⟨by omega, rfl⟩, by go_num, H8⟩
            case measure => omega
      · obtain rfl : t = its.length := by omega
        rw [List.take_length] at Hr hI hk
        generalize hx : runI firstI its = x at *
        have HX := Lib.hid hx
        clear hx
        have CC := HCC.out _ _ _ Hr
        go_wp2_with fail
        refine CC.mono ?_
        rintro _ w4 ⟨_, rfl, u, c1, rfl, hc1, H4⟩
        clear CC Hr
        go_wp2_with fail
        refine (finish_calls hI hk H4.swap).mono ?_
        rintro _ w5 ⟨r, rfl, c2, hc2, H5⟩
        obtain rfl := hc1.uniq hc2
        have hcn : c1.length ≤ 1010 := by obtain ⟨n, hn, -, -, rfl⟩ := hc1; rw [digs_length]; omega
        clear H4 hc1 hc2
        go_wp2_with fail
        refine (bsame_calls (by omega) H5.rd H5.tail.tail.rd).mono ?_
        rintro _ _ ⟨rfl, n, rfl⟩
        have e1 : decide (c1 = c1) = true := decide_eq_true rfl
        rw [e1]
        have H6 := (H5.drewN n).tail.tail.tail
        go_wp2_with fail
        go_ret
        subst HB
        exact ⟨rfl, H6.below⟩

end Go.Proofs.Ytglinpclcmmnbaa
