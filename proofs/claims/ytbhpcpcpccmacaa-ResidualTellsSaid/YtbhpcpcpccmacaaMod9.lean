/- model: Plain; the reference: Width, Fits, Plain. -/
import Derived.Test.YtbhpcpcpccmacaaMod5
import Derived.Test.YtbhpcpcpccmacaaGC
namespace Go.Proofs.Ytbhpcpcpccmacaa
open Go.RowKit Go.Shelf

set_option maxRecDepth 100000 in
set_option maxHeartbeats 2000000 in
theorem mplain_calls {v : Value} {n : Int} {m : Nat} {xs : List Value} {w : World} (hm : m ≤ 1048576) (hrd : RdS w v m 1 xs) :
    Calls Try.prog 32 #[.int .i64 n, v] w fun e w' => e = .returned (.int .i64 (if n < 1 ∨ 256 < n then 0 else ((1 + (m * widthN n + 7) / 8 : Nat) : Int))) ∧ w = w' := by
  obtain ⟨a, cap, rfl⟩ := hrd.form
  by_cases h1 : n < 1
  · rw [if_pos (.inl h1)]
    go_enter Try.func32, Try.ntmps32
    go_wp2_with fail
    go_ret
    exact ⟨rfl, rfl⟩
  by_cases h2 : 256 < n
  · rw [if_pos (.inr h2)]
    go_enter Try.func32, Try.ntmps32
    go_wp2_with fail
    go_ret
    exact ⟨rfl, rfl⟩
  rw [if_neg (by omega)]
  obtain ⟨N, rfl⟩ := Int.eq_ofNat_of_zero_le (show 0 ≤ n by omega)
  have hw8 := width_8 (n := N) (by omega)
  have hmw : m * widthN (N : Int) ≤ 8388608 := by
    have := Nat.mul_le_mul hm hw8
    omega
  have WC := width_calls (b := (N : Int)) (w := w) (by omega) (by omega)
  generalize widthN (N : Int) = W at *
  have hmi : (m : Int) * (W : Int) = ((m * W : Nat) : Int) := by simp
  generalize m * W = MW at *
  have e1 : ((1 + (MW + 7) / 8 : Nat) : Int) = 1 + ((MW : Int) + 7) / 8 := by omega
  have e2 : ((MW : Int) + 7).tdiv 8 = ((MW : Int) + 7) / 8 := Int.tdiv_eq_ediv_of_nonneg (by omega)
  rw [e1]
  clear e1
  go_enter Try.func32, Try.ntmps32
  go_wp2_with fail
  refine WC.mono ?_
  rintro _ _ ⟨rfl, rfl⟩
  go_wp2_with fail
  go_ret
  exact ⟨rfl, rfl⟩

theorem width_least : ∀ n : Nat, n < 257 → 1 ≤ n → n ≤ 2 ^ widthN (n : Int) ∧ ∀ t, t < widthN (n : Int) → 2 ^ t < n := by decide +kernel
set_option maxRecDepth 100000 in
set_option maxHeartbeats 2000000 in
theorem rwidth5_calls {n : Nat} (h1 : 1 ≤ n) (h2 : n ≤ 256) {w : World} :
    Calls Try.prog 53 #[.int .i64 (n : Int)] w fun e w' => e = .returned (.int .i64 (widthN (n : Int) : Int)) ∧ w = w' := by
  obtain ⟨k1, k2⟩ := width_least n (by omega) h1
  generalize widthN (n : Int) = k at *
  have K1 := Lib.hid k1
  have K2 := Lib.hid k2
  clear k1 k2
  go_enter Try.func53, Try.ntmps53
  go_wp2_with fail
  go_loopg [3, 4] k (fun gk kk x wr => wr = w ∧ ∃ t y : Nat, Hid (t ≤ k ∧ gk = k - t ∧ y = 2 ^ t) ∧ kk = .int .i64 (t : Int) ∧ x = .int .i64 (y : Int))
  case atStart => exact ⟨rfl, 0, 1, Lib.hid ⟨by omega, rfl, rfl⟩, rfl, rfl⟩
  case round =>
    obtain ⟨rfl, t, y, hq, rfl, rfl⟩ := hrel
    obtain ⟨q1, q2, hy⟩ := hq.out
    clear hq
    by_cases ht : t < k
    · have hlt : y < n := by rw [hy]; exact K2.out t ht
      have HY := Lib.hid hy
      have hk8 : k ≤ 8 := by
        apply Classical.byContradiction
        intro hk
        have := K2.out 8 (by omega)
        omega
      clear hy
      go_wp2_with fail
      go_roundg (k - (t + 1))
      case rel => exact ⟨rfl, t + 1, 2 * y, Lib.hid ⟨by omega, rfl, by rw [HY.out, Nat.pow_succ, Nat.mul_comm]⟩, by go_num, by go_num⟩
      case measure => omega
    · obtain rfl : t = k := by omega
      have hge : ¬ (y : Int) < (n : Int) := by have := K1.out; rw [← hy] at this; omega
      clear hy
      go_wp2_with fail
      go_ret
      exact ⟨rfl, rfl⟩

set_option maxRecDepth 100000 in
set_option maxHeartbeats 8000000 in
theorem rfits5_calls {v u : Value} {n cx : Int} {syms ctx : List Int} {F : List HP} {w : World} (hl1 : syms.length ≤ 1000000) (hrv : Reads F v syms.length 1 (syms.map iv)) (hru : Reads F u ctx.length 1 (ctx.map iv)) (H : Sep w F) :
    Calls Try.prog 27 #[.int .i64 n, .int .i64 cx, v, u] w fun e w' => e = .returned (.int .i64 (fitE n cx syms ctx : Int)) ∧ w = w' := by
  obtain ⟨a, cap, rfl⟩ := (hrv w H).form
  obtain ⟨ua, ucap, rfl⟩ := (hru w H).form
  obtain ⟨rv, hrv2⟩ : ∃ rv, rv = fitE n cx syms ctx := ⟨_, rfl⟩
  rw [← hrv2]
  have HRV := Lib.hid hrv2
  clear hrv2
  by_cases h1 : n < 1
  · have HE : Hid (rv = 2) := Lib.hid (by rw [HRV.out]; unfold fitE; rw [if_pos (.inl h1)])
    go_enter Try.func27, Try.ntmps27
    go_wp2_with fail
    go_ret
    exact ⟨by rw [HE.out]; rfl, rfl⟩
  by_cases h2 : 256 < n
  · have HE : Hid (rv = 2) := Lib.hid (by rw [HRV.out]; unfold fitE; rw [if_pos (.inr (.inl h2))])
    go_enter Try.func27, Try.ntmps27
    go_wp2_with fail
    go_ret
    exact ⟨by rw [HE.out]; rfl, rfl⟩
  by_cases h3 : cx < 1
  · have HE : Hid (rv = 2) := Lib.hid (by rw [HRV.out]; unfold fitE; rw [if_pos (.inr (.inr (.inl h3)))])
    go_enter Try.func27, Try.ntmps27
    go_wp2_with fail
    go_ret
    exact ⟨by rw [HE.out]; rfl, rfl⟩
  by_cases h4 : 64 < cx
  · have HE : Hid (rv = 2) := Lib.hid (by rw [HRV.out]; unfold fitE; rw [if_pos (.inr (.inr (.inr h4)))])
    go_enter Try.func27, Try.ntmps27
    go_wp2_with fail
    go_ret
    exact ⟨by rw [HE.out]; rfl, rfl⟩
  have h1234 : ¬ (n < 1 ∨ 256 < n ∨ cx < 1 ∨ 64 < cx) := by omega
  by_cases h5 : syms.length ≠ ctx.length
  · have HE : Hid (rv = 1) := Lib.hid (by rw [HRV.out]; unfold fitE; rw [if_neg h1234, if_pos h5])
    have hb : ((syms.length : Int) != (ctx.length : Int)) = true := by rw [bne_iff_ne]; omega
    have hb2 : ¬ (syms.length : Int) = (ctx.length : Int) := by omega
    clear h5 h1234
    go_enter Try.func27, Try.ntmps27
    go_wp2_with fail
    go_ret
    exact ⟨by rw [HE.out]; rfl, rfl⟩
  have h5e : syms.length = ctx.length := by omega
  have hb : ((syms.length : Int) != (ctx.length : Int)) = false := by rw [bne_eq_false_iff_eq]; omega
  have HL := Lib.hid h5e
  by_cases h6 : 65536 < syms.length
  · have HE : Hid (rv = 7) := Lib.hid (by rw [HRV.out]; unfold fitE; rw [if_neg h1234, if_neg h5, if_pos h6])
    have hb2 : (syms.length : Int) = (ctx.length : Int) := by omega
    clear h5 h1234 h5e
    rw [← hb2] at hb
    go_enter Try.func27, Try.ntmps27
    go_wp2_with fail
    go_ret
    exact ⟨by rw [HE.out]; rfl, rfl⟩
  have hfit : rv = if (∀ s ∈ syms, 0 ≤ s ∧ s < n) ∧ (∀ c ∈ ctx, 0 ≤ c ∧ c < cx) then 0 else 2 := by
    rw [HRV.out]
    unfold fitE
    rw [if_neg h1234, if_neg h5, if_neg h6]
  have HF := Lib.hid hfit
  rw [← h5e] at hru
  have hbe : ((syms.length : Int) != (syms.length : Int)) = false := by simp
  have hle : (ctx.length : Int) = (syms.length : Int) := by omega
  clear hfit h5 h1234 hb h5e
  go_enter Try.func27, Try.ntmps27
  go_wp2_with fail
  go_loopg [9] syms.length (fun gk i wr => wr = w ∧ ∃ t : Nat, Hid (t ≤ syms.length ∧ gk = syms.length - t) ∧ Hid ((∀ c ∈ syms.take t, 0 ≤ c ∧ c < n) ∧ (∀ c ∈ ctx.take t, 0 ≤ c ∧ c < cx)) ∧ i = .int .i64 (t : Int))
  case atStart => exact ⟨rfl, 0, Lib.hid ⟨by omega, rfl⟩, Lib.hid (by simp), rfl⟩
  case round =>
    obtain ⟨rfl, t, hq, hh, rfl⟩ := hrel
    obtain ⟨q1, q2⟩ := hq.out
    clear hq
    by_cases ht : t < syms.length
    · have htc : t < ctx.length := by rw [← HL.out]; exact ht
      obtain ⟨g, o, cap', he⟩ := (hrv _ H).open (by omega)
      simp only [Value.slice.injEq, true_and] at he
      obtain ⟨rfl, rfl⟩ := he
      obtain ⟨g2, o2, cap2, he⟩ := (hru _ H).open (by omega)
      simp only [Value.slice.injEq, true_and] at he
      obtain ⟨rfl, he2⟩ := he
      have k1 : wr.cell? ⟨g, o + t, none⟩ = some (.int .i64 syms[t]) := (hrv _ H).cell t (iv_get ht)
      have k2 : wr.cell? ⟨g2, o2 + t, none⟩ = some (.int .i64 ctx[t]) := by
        have h0 := hru _ H
        exact RdS.cell h0 t (iv_get htc)
      have HT := Lib.hid (List.take_succ_eq_append_getElem ht)
      have HT2 := Lib.hid (List.take_succ_eq_append_getElem htc)
      have HM := Lib.hid (List.getElem_mem ht)
      have HM2 := Lib.hid (List.getElem_mem htc)
      have hti : (t : Int) < (syms.length : Int) := by omega
      generalize syms[t] = x at k1 HT HM
      generalize ctx[t] = y at k2 HT2 HM2
      clear he2
      have HX1 : Hid (¬ (0 ≤ x ∧ x < n) → rv = 2) := Lib.hid fun h => by rw [HF.out, if_neg (fun hh => h (hh.1 x HM.out))]
      have HX2 : Hid (¬ (0 ≤ y ∧ y < cx) → rv = 2) := Lib.hid fun h => by rw [HF.out, if_neg (fun hh => h (hh.2 y HM2.out))]
      by_cases c1 : x < 0
      · have HE : Hid (rv = 2) := Lib.hid (HX1.out (by omega))
        go_wp2_with fail
        go_ret
        exact ⟨by rw [HE.out]; rfl, rfl⟩
      by_cases c2 : n ≤ x
      · have HE : Hid (rv = 2) := Lib.hid (HX1.out (by omega))
        go_wp2_with fail
        go_ret
        exact ⟨by rw [HE.out]; rfl, rfl⟩
      by_cases c3 : y < 0
      · have HE : Hid (rv = 2) := Lib.hid (HX2.out (by omega))
        go_wp2_with fail
        go_ret
        exact ⟨by rw [HE.out]; rfl, rfl⟩
      by_cases c4 : cx ≤ y
      · have HE : Hid (rv = 2) := Lib.hid (HX2.out (by omega))
        go_wp2_with fail
        go_ret
        exact ⟨by rw [HE.out]; rfl, rfl⟩
      have HN : Hid ((∀ c ∈ syms.take (t + 1), 0 ≤ c ∧ c < n) ∧ (∀ c ∈ ctx.take (t + 1), 0 ≤ c ∧ c < cx)) := Lib.hid (by
        rw [HT.out, HT2.out]
        refine ⟨fun z hz => ?_, fun z hz => ?_⟩
        · rcases List.mem_append.1 hz with hz | hz
          · exact hh.out.1 z hz
          · have : z = x := by simpa using hz
            omega
        · rcases List.mem_append.1 hz with hz | hz
          · exact hh.out.2 z hz
          · have : z = y := by simpa using hz
            omega)
      go_wp2_with fail
      go_roundg (syms.length - (t + 1))
      case rel => exact ⟨rfl, t + 1, Lib.hid ⟨by omega, rfl⟩, HN, by go_num⟩
      case measure => omega
    · obtain rfl : t = syms.length := by omega
      have hti : ¬ (syms.length : Int) < (syms.length : Int) := by omega
      have hall := hh.out
      rw [List.take_length, HL.out, List.take_length] at hall
      have HE : Hid (rv = 0) := Lib.hid (by rw [HF.out, if_pos hall])
      clear hall hh
      go_wp2_with fail
      go_ret
      exact ⟨by rw [HE.out]; rfl, rfl⟩

set_option maxRecDepth 100000 in
set_option maxHeartbeats 8000000 in
theorem rplain5_calls {v : Value} {n : Nat} {ss : List Nat} {F : List HP} {w : World} (hn1 : 1 ≤ n) (hn2 : n ≤ 256) (hs : ∀ s ∈ ss, s < n) (hl : ss.length ≤ 65536) (hrd : Reads F v ss.length 1 (ss.map dv)) (H : Sep w F) :
    Calls Try.prog 28 #[.int .i64 (n : Int), v] w (Gives fun r w' => Sep w' (HP.row 5 1 r (plainB n ss).length ((plainB n ss).map bv) :: F)) := by
  obtain ⟨a, cap, rfl⟩ := (hrd w H).form
  have hw8 := width_8 hn2
  have HS := Lib.hid hs
  clear hs
  have HBL : Hid (∀ t, (rowBits n (ss.take t)).length ≤ 524288) := Lib.hid fun t => by
    rw [rowBits_length]
    have h1 : (ss.take t).length ≤ 65536 := by rw [List.length_take]; omega
    have := Nat.mul_le_mul h1 hw8
    omega
  have H1 := H.row_nil 3 1
  go_enter Try.func28, Try.ntmps28
  go_wp2_with fail
  go_loopg [5, 6] ss.length (fun gk u i wr => ∃ (t : Nat) (ua : Option Addr) (uc : Nat), Hid (t ≤ ss.length ∧ gk = ss.length - t) ∧ u = .slice ua (rowBits n (ss.take t)).length uc ∧ i = .int .i64 (t : Int) ∧ Sep wr (HP.row 3 1 (.slice ua (rowBits n (ss.take t)).length uc) (rowBits n (ss.take t)).length ((rowBits n (ss.take t)).map bitv) :: F))
  case atStart => exact ⟨0, none, 0, Lib.hid ⟨by omega, rfl⟩, rfl, rfl, H1⟩
  case round =>
    clear H1
    obtain ⟨t, ua, uc, hq, rfl, rfl, Hr⟩ := hrel
    obtain ⟨q1, q2⟩ := hq.out
    clear hq
    by_cases ht : t < ss.length
    · obtain ⟨g, o, cp, he⟩ := (hrd _ Hr.tail).open (by omega)
      simp only [Value.slice.injEq, true_and] at he
      obtain ⟨rfl, rfl⟩ := he
      have HK : Hid (∀ w', Sep w' F → w'.cell? ⟨g, o + t, none⟩ = some (.int .i64 (ss[t] : Int))) := Lib.hid fun w' h => (hrd w' h).cell t (dv_at (List.getElem?_eq_getElem ht))
      have kb := HK.out _ Hr.tail
      have hst := HS.out _ (List.getElem_mem ht)
      have HT : Hid (rowBits n (ss.take (t + 1)) = rowBits n (ss.take t) ++ valBits ss[t] (widthN (n : Int))) := Lib.hid (by rw [List.take_succ_eq_append_getElem ht, rowBits_snoc])
      have hb := HBL.out t
      have hb1 := HBL.out (t + 1)
      generalize hgl : rowBits n (ss.take (t + 1)) = L1 at *
      have HGL := Lib.hid hgl
      clear hgl
      generalize rowBits n (ss.take t) = L0 at *
      generalize ss[t] = s at *
      have hti : (t : Int) < (ss.length : Int) := by omega
      have hwr : IntKind.u64.wrap (s : Int) = (s : Int) := by
        simp only [IntKind.wrap, IntKind.signed, IntKind.bits]
        first | omega | (simp; omega)
      have WC := rwidth5_calls hn1 hn2 (w := wr.drew)
      have VC := value_calls (v := s) (n := widthN (n : Int)) (by omega) (by omega) Hr.drew
      have hvl : (valBits s (widthN (n : Int))).length = widthN (n : Int) := valBits_length _ _
      have h63 : L0.length + widthN (n : Int) ≤ maxLen := by unfold maxLen; omega
      have hby : (L0.length + widthN (n : Int)) * 8 ≤ 140737488355328 := by omega
      have HVL := Lib.hid hvl
      have hL1 : L1.map bitv = L0.map bitv ++ (valBits s (widthN (n : Int))).map bitv := by rw [HT.out, List.map_append]
      have hL1l : L1.length = L0.length + widthN (n : Int) := by rw [HT.out, List.length_append, HVL.out]
      have HL1 := Lib.hid hL1
      have HL1l := Lib.hid hL1l
      clear hL1 hL1l hvl
      generalize valBits s (widthN (n : Int)) = vb at *
      generalize widthN (n : Int) = W at *
      go_wp2_with fail
      go_region_held3 (fun w' => w'.cell? ⟨g, o + t, none⟩ = some (.int .i64 (s : Int))) (first | exact kb | exact HK.out _ H5.tail.tail | exact HK.out _ H7.tail.tail) (first | (go_at_call 53; refine WC.mono ?_; rintro _ _ ⟨rfl, rfl⟩) | (go_at_call 52; refine VC.mono ?_; rintro _ w5 ⟨r5, rfl, H5⟩; obtain ⟨ra5, rc5, hr5⟩ := H5.row_form; subst hr5) | (refine step_append_src rfl (.tmp 13) (.tmp 21) 40 rfl 3 (.int .i64 0) 1 8 Try.underlying40 info_int rfl (by decide) (.slice ua L0.length uc) L0.length _ rfl H5.swap (.slice ra5 W rc5) W _ rfl H5.rd (bitv_one _) h63 hby ?_; intro va vc w7 H7))
      rw [← HL1.out, ← HL1l.out] at H7
      have H8 := H7.swap.tail
      have HH : Hid (L0.length + W = L1.length) := Lib.hid HL1l.out.symm
      rw [HH.out]
      clear H7 H5 Hr kb
      go_wp2_with fail
      go_roundg (ss.length - (t + 1))
      case rel => exact ⟨t + 1, va, vc, Lib.hid ⟨by omega, rfl⟩, by rw [HGL.out], by go_num, by rw [HGL.out]; exact H8⟩
      case measure => omega
    · obtain rfl : t = ss.length := by omega
      have hti : ¬ (ss.length : Int) < (ss.length : Int) := by omega
      have hb := HBL.out ss.length
      rw [List.take_length] at Hr hb
      rw [List.take_length]
      generalize hL : rowBits n ss = L at *
      have HL := Lib.hid hL
      clear hL HBL
      have HA := Hr.alloc #[.int .u8 0] 5
      have HN : Sep _ (HP.row 5 1 (.slice (some ⟨wr.heap.size, 0, none⟩) 1 1) 1 [.int .u8 0] :: _) := Sep.row_shut HA (Nat.le_refl _) (by unfold maxLen; omega) rfl rfl
      have BO := rbytes_calls (v := .slice ua L.length uc) (l := L) (by omega) (by exact Reads.cons Reads.row) HN
      have hpl := pk_length L
      have h63 : 1 + (pk L).length ≤ maxLen := by unfold maxLen; omega
      have hby : (1 + (pk L).length) * 1 ≤ 140737488355328 := by omega
      clear HA hpl
      go_wp2_with fail
      refine BO.mono ?_
      rintro _ w6 ⟨r6, rfl, H6⟩
      obtain ⟨ra, rc, rfl⟩ := H6.row_form
      have hrd6 := H6.rd
      have H7 := H6.swap
      clear BO H6
      go_wp2_with ((at_builtin; go_must (refine wpList_append_src rfl (.tmp 23) (.tmp 25) 33 rfl 5 (.int .u8 0) 1 1 Try.underlying33 info_u8 rfl (by decide) (.slice (some ⟨wr.heap.size, 0, none⟩) 1 1) 1 [.int .u8 0] rfl H7 (.slice ra (pk L).length rc) _ _ rfl hrd6 (u8v_one _) h63 hby ?_); intro v7 w7 H8))
      go_ret
      refine ⟨_, rfl, ?_⟩
      have e1 : (plainB n ss).length = 1 + (pk L).length := by unfold plainB; rw [HL.out, List.length_cons, Nat.add_comm]
      have e2 : (plainB n ss).map bv = [Value.int .u8 0] ++ (pk L).map u8v := by unfold plainB; rw [HL.out, List.map_cons]; rfl
      rw [e1, e2]
      exact H8.swap.tail.swap.tail

end Go.Proofs.Ytbhpcpcpccmacaa
