/- Law 04: CoderAdapts. -/
import Derived.Test.YtglinpclcmmnbaaAdapt
import Derived.Test.YtglinpclcmmnbaaLaw4d
import Derived.Test.YtglinpclcmmnbaaLaw4b
namespace Go.Proofs.Ytglinpclcmmnbaa
open Go.RowKit Go.ChangeShapes Go.WideShapes Go.Deep Go.Shelf

/-- The symbols that bytes tell. -/
def eightS (b : List Nat) : List (Nat × Nat) := b.map fun d => (0, d % 8)
theorem eightS_lt (b : List Nat) : ∀ p ∈ eightS b, p.2 < 8 := by
  intro p hp
  obtain ⟨d, -, rfl⟩ := List.mem_map.1 hp
  exact Nat.mod_lt _ (by decide)
theorem eightS_take (b : List Nat) (t : Nat) : eightS (b.take t) = (eightS b).take t := by unfold eightS; rw [List.map_take]
def SameTo (b : List Nat) (t : Nat) : Prop := ∀ d ∈ b.take t, d % 8 = b.getD 0 0 % 8
theorem SameTo.rep {b : List Nat} (h : SameTo b b.length) : eightS b = List.replicate b.length (0, b.getD 0 0 % 8) := by
  unfold SameTo at h
  rw [List.take_length] at h
  refine List.eq_replicate_iff.2 ⟨by simp [eightS], fun p hp => ?_⟩
  obtain ⟨d, hd, rfl⟩ := List.mem_map.1 hp
  rw [h d hd]
theorem SameTo.next {b : List Nat} {t : Nat} (h : SameTo b t) (ht : t < b.length) (e : b[t] % 8 = b.getD 0 0 % 8) : SameTo b (t + 1) := by
  intro d hd
  rw [List.take_succ_eq_append_getElem ht] at hd
  rcases List.mem_append.1 hd with hd | hd
  · exact h d hd
  · obtain rfl : d = b[t] := by simpa using hd
    exact e
theorem same_bytes {b : List Nat} {c : List Nat} (h : SameTo b b.length) (hl : b.length ≤ 200) (hc : IsCode ((mrun 8 (eightS b)).1.1 + 4) (mrun 8 (eightS b)).1.2.1 (mrun 8 (eightS b)).1.2.2 c) : c.length ≤ 2 := by
  have hI := (mrun_ok (n := 8) (by decide) (by decide) (eightS_lt b)).1
  have hs : (mrun 8 (eightS b)).1.1 ≤ 1 := by
    rw [h.rep]
    exact same_short (J := 200) (Nat.mod_lt _ (by decide)) (by decide) hl (by decide) lowS_8
  generalize (mrun 8 (eightS b)).1 = x at *
  obtain ⟨k, L, R⟩ := x
  have hIv : Iv k L R := hI
  have := IsCode.short hc hIv.1
  simp only at hs
  omega

set_option maxRecDepth 100000 in
set_option maxHeartbeats 8000000 in
theorem law_CoderAdapts (ba : Option Addr) (blen bcap : Nat) (z : List Int) {w : World} (hz : IsRow .u8 w ba blen bcap z) :
    Calls Try.prog 17 #[.slice ba blen bcap] w fun e w' => e = .returned (.bool true) ∧ Below w.heap.size w w' := by
  obtain ⟨b, rfl, hlt, hrb0⟩ := hz.bytes
  have hrb : Reads [HP.old w.heap.size w] (.slice ba b.length bcap) b.length 1 (b.map bv) := Reads.old hrb0
  clear hz hrb0
  have H := Sep.start w
  generalize hB : HP.old w.heap.size w = O at H hrb
  have HB := Lib.hid hB; clear hB
  have HLT := Lib.hid hlt
  clear hlt
  go_enter Try.func17, Try.ntmps17
  go_wp2_with fail
  refine (awake4 H).mono ?_
  rintro e w1 ⟨rfl, H1⟩
  clear H
  by_cases h200 : 200 < b.length
  · go_wp2_with fail
    go_ret
    subst HB
    exact ⟨rfl, H1.below⟩
  have HE0 := H1.alloc #[.int .i64 1, .int .i64 1, .int .i64 1, .int .i64 1, .int .i64 1, .int .i64 1, .int .i64 1, .int .i64 1] 3
  have HE : Sep _ (HP.row 3 1 (.slice (some ⟨w1.heap.size, 0, none⟩) 8 8) (onesI 8).length ((onesI 8).map iv) :: _) := Sep.row_shut HE0 (Nat.le_refl _) (by unfold maxLen; omega) rfl rfl
  have hv8 := ones_ok (n := 8) (by decide) (by decide)
  have HV8 := Lib.hid hv8
  clear H1 HE0 hv8
  go_wp2_with fail
  refine (made_calls (v := .slice (some ⟨w1.heap.size, 0, none⟩) 8 8) HV8.out (by exact Reads.row) HE).mono ?_
  rintro _ w3 ⟨_, rfl, bt, rfl, H3⟩
  go_wp2_with fail
  refine (made_calls (v := .slice (some ⟨w1.heap.size, 0, none⟩) 8 8) HV8.out (by exact Reads.cons Reads.row) H3).mono ?_
  rintro _ w4 ⟨_, rfl, bu, rfl, H4⟩
  clear HE H3
  go_wp2_with fail
  refine (cnew_calls H4).mono ?_
  rintro _ w5 ⟨q, rfl, H5⟩
  clear H4
  have H6 : Sep w5 (EncI q firstI :: Tbl bt (onesI 8) :: Tbl bu (onesI 8) :: [O]) := H5.rot4.tail.rot3.swap
  clear H5
  go_wp2_with fail
  go_loopg [7, 8] b.length (fun gk smv i wr => ∃ (t : Nat) (sm : Bool), Hid (t ≤ b.length ∧ gk = b.length - t) ∧ Hid (sm = true → SameTo b t) ∧ smv = .bool sm ∧ i = .int .i64 (t : Int) ∧ Sep wr (EncI q (mrun 8 ((eightS b).take t)).1 :: Tbl bt ((mrun 8 ((eightS b).take t)).2 0) :: Tbl bu (onesI 8) :: [O]))
  case atStart => exact ⟨0, true, Lib.hid ⟨by omega, rfl⟩, Lib.hid (fun _ d hd => by simp at hd), rfl, rfl, H6⟩
  case round =>
    clear H6
    obtain ⟨t, sm, hq, hsm, rfl, rfl, Hr⟩ := hrel
    obtain ⟨q1, q2⟩ := hq.out
    clear hq
    have hok := mrun_ok (n := 8) (l := (eightS b).take t) (by decide) (by decide) (fun p hp => eightS_lt b p (List.mem_of_mem_take hp))
    obtain ⟨hI, hk, hT⟩ := hok
    have hk : (mrun 8 ((eightS b).take t)).1.1 ≤ 400 := by
      have : ((eightS b).take t).length ≤ t := by simp; omega
      omega
    by_cases ht : t < b.length
    · have hST := mrun_take (n := 8) (l := eightS b) (t := t) (by simpa [eightS] using ht)
      have hget : (eightS b)[t]'(by simpa [eightS] using ht) = (0, b[t] % 8) := by simp [eightS]
      rw [hget] at hST
      obtain ⟨g, o, cp, he⟩ := (hrb _ (Sep.drop_left (S := [_, _, _]) Hr)).open (by omega)
      simp only [Value.slice.injEq, true_and] at he
      obtain ⟨rfl, rfl⟩ := he
      have HCT : Hid (∀ w', Sep w' [O] → w'.cell? ⟨g, o + t, none⟩ = some (.int .u8 (b[t] : Int))) := Lib.hid fun w' h => (hrb _ h).cell t (bv_at b t ht)
      have HC0 : Hid (∀ w', Sep w' [O] → w'.cell? ⟨g, o, none⟩ = some (.int .u8 (b.getD 0 0 : Int))) := Lib.hid fun w' h => by
        have := (hrb _ h).cell 0 (bv_at b 0 (by omega))
        rw [Nat.add_zero] at this
        rw [this]
        simp [List.getD, List.getElem?_eq_getElem (show 0 < b.length by omega)]
      have hd := HLT.out _ (List.getElem_mem ht)
      have hd0 : b.getD 0 0 < 256 := wide_get_lt HLT.out 0
      have HN : Hid (∀ sm : Bool, (sm = true → SameTo b t) → (sm = true → b[t] % 8 = b.getD 0 0 % 8) → (sm = true → SameTo b (t + 1))) := Lib.hid fun sm h1 h2 h3 => (h1 h3).next ht (h2 h3)
      have HST := Lib.hid hST
      have hv := (hT 0).1
      have hl := (hT 0).2
      have kt := HCT.out _ (Sep.drop_left (S := [_, _, _]) Hr)
      have k0 := HC0.out _ (Sep.drop_left (S := [_, _, _]) Hr)
      clear hST hget hT
      generalize mrun 8 ((eightS b).take t) = S at *
      generalize b[t] = d at *
      generalize b.getD 0 0 = d0 at *
      have hti : (t : Int) < (b.length : Int) := by omega
      have h0b : (0 : Int) < (b.length : Int) := by omega
      have hr1 : (d : Int).tmod 8 = ((d % 8 : Nat) : Int) := by rw [Int.tmod_eq_emod_of_nonneg (by omega)]; omega
      have hr2 : (d : Int) % 8 = ((d % 8 : Nat) : Int) := by omega
      have hr3 : (d0 : Int).tmod 8 = ((d0 % 8 : Nat) : Int) := by rw [Int.tmod_eq_emod_of_nonneg (by omega)]; omega
      have hr4 : (d0 : Int) % 8 = ((d0 % 8 : Nat) : Int) := by omega
      have hs8 : d % 8 < 8 := Nat.mod_lt _ (by decide)
      have hs80 : d0 % 8 < 8 := Nat.mod_lt _ (by decide)
      generalize d % 8 = e at *
      generalize d0 % 8 = e0 at *
      have hcs : ∃ sm2 : Bool, (sm2 = true → SameTo b (t + 1)) ∧ ((sm = false ∧ sm2 = false) ∨ (sm = true ∧ sm2 = true ∧ e = e0) ∨ (sm = true ∧ sm2 = false ∧ ¬ e = e0)) := by
        cases hsmv : sm with
        | false => exact ⟨false, (fun h => by cases h), .inl ⟨rfl, rfl⟩⟩
        | true =>
          by_cases hee : e = e0
          · exact ⟨true, HN.out true (fun _ => hsm.out hsmv) (fun _ => hee), .inr (.inl ⟨rfl, rfl, hee⟩)⟩
          · exact ⟨false, (fun h => by cases h), .inr (.inr ⟨rfl, rfl, hee⟩)⟩
      obtain ⟨sm2, hsm2, hcs⟩ := hcs
      have HSM := Lib.hid hsm2
      have hbe : bumpE (S.2 0) (e : Int) = 0 := by unfold bumpE; rw [if_pos ⟨by omega, by omega⟩]
      have HBE := Lib.hid hbe
      have HV := Lib.hid hv
      have hwr : IntKind.i64.wrap (e : Int) = (e : Int) := IntWalk.i64_in _ (by omega)
      clear hsm2 hbe hsm hv HN
      rcases hcs with ⟨rfl, rfl⟩ | ⟨rfl, rfl, rfl⟩ | ⟨rfl, rfl, hne⟩
      rotate_right
      have hne1 : ((e : Int) == (e0 : Int)) = false := by rw [beq_eq_false_iff_ne]; omega
      have hne2 : ¬ (e : Int) = (e0 : Int) := by omega
      clear hne
      all_goals (
        go_wp2_with fail
        (refine wp_region_quiet_lit (by kernel_rfl) (by kernel_rfl) ?_; (repeat (first | go_big_quiet_skip | (go_big_quiet_want; go_big_quiet_op; (try go_bits); first | go_big_quiet_on | go_big_quiet_call (fail)))); refine wpQuiet_nil ?_; intro _ hw'; obtain ⟨nq, hw''⟩ := hw'; subst hw'')
        have H1 := Hr.drewN nq
        have kt := HCT.out _ (Sep.drop_left (S := [_, _, _]) H1)
        go_wp2_with fail
        refine (encode_ok (s := e) hI (by omega) HV.out (by omega) H1).mono ?_
        rintro _ w7 ⟨rfl, H2⟩
        have kt := HCT.out _ (Sep.drop_left (S := [_, _, _]) H2)
        go_wp2_with fail
        refine (bump_calls (i := (e : Int)) HV.out H2.swap).mono ?_
        rintro _ w8 ⟨rfl, H3⟩
        rw [HBE.out]
        clear H1 H2 kt
        have H4 := H3.swap
        go_wp2_with fail
        go_roundg (b.length - (t + 1))
        case rel => exact ⟨t + 1, _, Lib.hid ⟨by omega, rfl⟩, Lib.hid (by first | exact fun h => HSM.out h | exact fun _ => HSM.out trivial | exact fun h => by cases h), rfl, by go_num, by rw [HST.out]; exact H4⟩
        case measure => omega)
    · obtain rfl : t = b.length := by omega
      have hti : ¬ (b.length : Int) < (b.length : Int) := by omega
      have hel : (eightS b).length = b.length := by simp [eightS]
      rw [List.take_of_length_le (by omega)] at hI hk Hr
      generalize hS : mrun 8 (eightS b) = S at *
      have HS := Lib.hid hS
      clear hS hT
      go_wp2_with fail
      refine (finish_calls hI (by omega) Hr).mono ?_
      rintro _ w7 ⟨r7, rfl, c, hc, H7⟩
      obtain ⟨ra, rc, rfl⟩ := H7.row_form
      have hcn := hc.len_le
      have hcl : ∀ d ∈ c, d < 256 := by obtain ⟨n, -, -, -, hcd⟩ := hc; rw [hcd]; exact digs_lt _ _
      have hin0 : InI S.1 c := code_in (k := S.1.1) (L := S.1.2.1) (R := S.1.2.2) hI hc
      have hin : ∀ t, InI (mrun 8 ((eightS b).take t)).1 c := mrun_up (by decide) (by decide) (eightS_lt b) hcl (by rw [HS.out]; exact hin0)
      have HIN := Lib.hid hin
      have HCL := Lib.hid hcl
      have HL2 : Hid (sm = true → c.length ≤ 2) := Lib.hid (fun h => same_bytes (hsm.out h) (by omega) (by rw [HS.out]; exact hc))
      have HC := Lib.hid hc
      clear hin hin0 hcl hc
      have ND := newdec_calls (v := .slice ra c.length rc) (by omega) HCL.out (by exact Reads.row) H7
      go_wp2_with fail
      refine ND.mono ?_
      rintro _ w8 ⟨_, rfl, q2, rfl, H8⟩
      clear ND H7 Hr
      have H9 := H8.swap.tail.swap.tail.swap.tail
      clear H8
      go_wp2_with fail
      go_loopg [11] b.length (fun gk i wr => ∃ t : Nat, Hid (t ≤ b.length ∧ gk = b.length - t) ∧ i = .int .i64 (t : Int) ∧ Sep wr (DecI q2 c (mrun 8 ((eightS b).take t)).1 :: Tbl bu ((mrun 8 ((eightS b).take t)).2 0) :: [O]))
      case atStart => exact ⟨0, Lib.hid ⟨by omega, rfl⟩, rfl, H9⟩
      case round =>
        clear H9
        obtain ⟨t, hq, rfl, Hr⟩ := hrel
        obtain ⟨q1, q2⟩ := hq.out
        clear hq
        have hok := mrun_ok (n := 8) (l := (eightS b).take t) (by decide) (by decide) (fun p hp => eightS_lt b p (List.mem_of_mem_take hp))
        obtain ⟨hI1, hk1, hT⟩ := hok
        have hk1 : (mrun 8 ((eightS b).take t)).1.1 ≤ 400 := by
          have : ((eightS b).take t).length ≤ t := by simp; omega
          omega
        by_cases ht : t < b.length
        · have hST := mrun_take (n := 8) (l := eightS b) (t := t) (by simpa [eightS] using ht)
          have hget : (eightS b)[t]'(by simpa [eightS] using ht) = (0, b[t] % 8) := by simp [eightS]
          rw [hget] at hST
          obtain ⟨g, o, cp, he⟩ := (hrb _ (Sep.drop_left (S := [_, _]) Hr)).open (by omega)
          simp only [Value.slice.injEq, true_and] at he
          obtain ⟨rfl, rfl⟩ := he
          have HCT : Hid (∀ w', Sep w' [O] → w'.cell? ⟨g, o + t, none⟩ = some (.int .u8 (b[t] : Int))) := Lib.hid fun w' h => (hrb _ h).cell t (bv_at b t ht)
          have hd := HLT.out _ (List.getElem_mem ht)
          have HI0 := Lib.hid (HIN.out t)
          have hin1 := HIN.out (t + 1)
          rw [hST] at hin1
          have HST := Lib.hid hST
          have hv := (hT 0).1
          have hl := (hT 0).2
          clear hST hget hT
          generalize mrun 8 ((eightS b).take t) = S1 at *
          generalize b[t] = d at *
          have hti : (t : Int) < (b.length : Int) := by omega
          have hr1 : (d : Int).tmod 8 = ((d % 8 : Nat) : Int) := by rw [Int.tmod_eq_emod_of_nonneg (by omega)]; omega
          have hr2 : (d : Int) % 8 = ((d % 8 : Nat) : Int) := by omega
          have hs8 : d % 8 < 8 := Nat.mod_lt _ (by decide)
          generalize d % 8 = e at *
          have HU := Lib.hid fun (s' : Nat) (h1 : s' < (S1.2 0).length) (h2 : InI (stepI S1.1 (S1.2 0) s') c) => step_uniq (s := e) hI1 hv (by omega) h1 HCL.out hin1 h2
          have hbe : bumpE (S1.2 0) (e : Int) = 0 := by unfold bumpE; rw [if_pos ⟨by omega, by omega⟩]
          have HBE := Lib.hid hbe
          have HV := Lib.hid hv
          have hwr : IntKind.i64.wrap (e : Int) = (e : Int) := IntWalk.i64_in _ (by omega)
          clear hbe hv hin1
          go_wp2_with fail
          refine (decode_calls hI1 (by omega) HV.out HCL.out HI0.out Hr).mono ?_
          rintro _ w10 ⟨s', rfl, hs', hin', H10⟩
          have hss := HU.out s' hs' hin'
          subst hss
          clear hin'
          have kt := HCT.out _ (Sep.drop_left (S := [_, _]) H10)
          go_wp2_with fail
          refine (bump_calls (i := (e : Int)) HV.out H10.swap).mono ?_
          rintro _ w11 ⟨rfl, H11⟩
          rw [HBE.out]
          clear H10 Hr kt
          have H12 := H11.swap
          go_wp2_with fail
          go_roundg (b.length - (t + 1))
          case rel => exact ⟨t + 1, Lib.hid ⟨by omega, rfl⟩, by go_num, by rw [HST.out]; exact H12⟩
          case measure => omega
        · obtain rfl : t = b.length := by omega
          have hti : ¬ (b.length : Int) < (b.length : Int) := by omega
          rw [List.take_of_length_le (by omega), HS.out] at hI1 hk1 Hr
          clear hT
          go_wp2_with fail
          refine (done_calls hI1 (by omega) HCL.out Hr).mono ?_
          rintro _ w12 ⟨⟨c', hc', rfl⟩, H12⟩
          have hcc := HC.out.uniq hc'
          subst hcc
          rw [decide_eq_true (rfl : c = c)]
          clear hc'
          cases sm with
          | false =>
            go_wp2_with fail
            go_ret
            subst HB
            exact ⟨rfl, H12.tail.tail.below⟩
          | true =>
            have h2 := HL2.out rfl
            go_wp2_with fail
            go_ret
            subst HB
            have e2 : decide ((c.length : Int) ≤ 2) = true := decide_eq_true (by omega)
            exact ⟨by show Ending.returned (.bool (decide ((c.length : Int) ≤ 2))) = _; rw [e2], H12.tail.tail.below⟩

end Go.Proofs.Ytglinpclcmmnbaa
