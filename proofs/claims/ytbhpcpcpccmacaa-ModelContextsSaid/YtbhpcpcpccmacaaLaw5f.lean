/- Law 05: ModelContexts. -/
import Derived.Test.YtbhpcpcpccmacaaLaw5
import Derived.Test.YtbhpcpcpccmacaaGC
namespace Go.Proofs.Ytbhpcpcpccmacaa
open Go.RowKit Go.Shelf

theorem turn_inj (k : Nat) : ∀ a, a < 8 → ∀ b, b < 8 → (a + k) % 8 = (b + k) % 8 → a = b := fun a ha b hb h => by omega

set_option maxRecDepth 100000 in
set_option maxHeartbeats 8000000 in
theorem law_ModelContexts (n : Int) (_wn : (Lit.int .i64 n).wf = true) (sa : Option Addr) (sl sc : Nat) (z : List Int) {w : World} (hz : IsRow .i64 w sa sl sc z) (ca : Option Addr) (cl cc : Nat) (z2 : List Int) (hz2 : IsRow .i64 w ca cl cc z2) (k : Int) (wt : (Lit.int .u8 k).wf = true) :
    Calls Try.prog 10 #[.int .i64 n, .slice sa sl sc, .slice ca cl cc, .int .u8 k] w fun e w' => e = .returned (.bool true) ∧ Below w.heap.size w w' := by
  obtain ⟨xs, rfl, hrv⟩ := hz.read
  obtain ⟨ys, rfl, hru⟩ := hz2.read
  clear hz hz2 _wn
  obtain ⟨tn, htn⟩ := Int.eq_ofNat_of_zero_le (wf_u8 wt).1
  have htn2 : tn ≤ 255 := by have := (wf_u8 wt).2; omega
  subst htn
  clear wt
  have H := Sep.start w
  generalize hB : HP.old w.heap.size w = O at H hrv hru
  have HB := Lib.hid hB; clear hB
  by_cases hg : 200 < xs.length ∨ 200 < ys.length
  · have HG := Lib.hid (decide_eq_true hg)
    clear hg
    go_enter Try.func10, Try.ntmps10
    go_wp2_with fail
    refine (awake5 H).mono ?_
    rintro e w1 ⟨rfl, H1⟩
    clear H
    have GC := mgreat_calls (hrv _ H1) (hru _ H1)
    rw [HG.out] at GC
    go_wp2_with fail
    refine GC.mono ?_
    rintro _ _ ⟨rfl, rfl⟩
    go_wp2_with fail
    refine (awake5 H1).mono ?_
    rintro e w2 ⟨rfl, H2⟩
    go_wp2_with fail
    go_ret
    subst HB
    exact ⟨rfl, H2.below⟩
  have HG := Lib.hid (decide_eq_false hg)
  have hl1 : xs.length ≤ 200 := by omega
  have hl2 : ys.length ≤ 200 := by omega
  clear hg
  by_cases hf : fitE n 8 xs ys = 0
  · obtain ⟨N, C, ss, cs, rfl, hC, rfl, rfl, hr⟩ := fit_row hf
    obtain rfl : C = 8 := by omega
    clear hC
    rw [zs_length, zs_iv] at hrv hru
    rw [zs_length] at hl1 hl2 HG
    rw [zs_length, zs_length]
    rw [zs_length] at HG
    have HR := Lib.hid hr
    clear hf hr
    go_enter Try.func10, Try.ntmps10
    go_wp2_with fail
    refine (awake5 H).mono ?_
    rintro e w1 ⟨rfl, H1⟩
    clear H
    have GC := mgreat_calls (hrv _ H1) (hru _ H1)
    rw [HG.out] at GC
    go_wp2_with fail
    refine GC.mono ?_
    rintro _ _ ⟨rfl, rfl⟩
    clear GC
    have FC : Calls Try.prog 27 #[.int .i64 (N : Int), .int .i64 8, .slice sa ss.length sc, .slice ca cs.length cc] w1 fun e w' => e = .returned (.int .i64 0) ∧ w1 = w' := nfits_calls HR.out hrv hru H1
    go_wp2_with fail
    refine FC.mono ?_
    rintro _ _ ⟨rfl, rfl⟩
    clear FC
    have H2 := H1.row_nil 3 1
    go_wp2_with fail
    go_loopg [9, 35] cs.length (fun gk ov i wr => ∃ (t : Nat) (ua : Option Addr) (uc : Nat), Hid (t ≤ cs.length ∧ gk = cs.length - t) ∧ ov = .slice ua t uc ∧ i = .int .i64 (t : Int) ∧ Sep wr (HP.row 3 1 (.slice ua t uc) t (((cs.take t).map fun c => (c + tn) % 8).map dv) :: [O]))
    case atStart => exact ⟨0, none, 0, Lib.hid ⟨by omega, rfl⟩, rfl, rfl, H2⟩
    case round =>
      clear H2 H1
      obtain ⟨t, ua, uc, hq, rfl, rfl, Hr⟩ := hrel
      obtain ⟨q1, q2⟩ := hq.out
      clear hq
      by_cases ht : t < cs.length
      · have hti : (t : Int) < (cs.length : Int) := by omega
        obtain ⟨g, o, cp, he⟩ := (hru _ Hr.tail).open (by omega)
        simp only [Value.slice.injEq, true_and] at he
        obtain ⟨rfl, rfl⟩ := he
        have kc := (hru _ Hr.tail).cell t (dv_at (List.getElem?_eq_getElem ht))
        have hct := HR.out.ctx _ (List.getElem_mem ht)
        have HT : Hid ((cs.take (t + 1)).map (fun c => (c + tn) % 8) = (cs.take t).map (fun c => (c + tn) % 8) ++ [(cs[t] + tn) % 8]) := Lib.hid (by rw [List.take_succ_eq_append_getElem ht, List.map_append]; rfl)
        generalize cs[t] = c at *
        have hc1 : ((c : Int) + (tn : Int)).tmod 8 = (((c + tn) % 8 : Nat) : Int) := by rw [Int.tmod_eq_emod_of_nonneg (by omega)]; omega
        have hc2 : ((c : Int) + (tn : Int)) % 8 = (((c + tn) % 8 : Nat) : Int) := by omega
        generalize (c + tn) % 8 = f at *
        have HA := Hr.alloc #[.int .i64 (f : Int)] 3
        have hrn := rd_new HA
        have HB2 := HA.swap
        have h63 : t + 1 ≤ maxLen := by unfold maxLen; omega
        have hby : (t + 1) * 8 ≤ 140737488355328 := by omega
        have hmm : ((cs.take t).map fun c => (c + tn) % 8).map dv ++ [.int .i64 (f : Int)] = ((cs.take (t + 1)).map fun c => (c + tn) % 8).map dv := by rw [HT.out, List.map_append]; rfl
        have HM := Lib.hid hmm
        clear hmm HA Hr
        go_wp2_with ((at_builtin; go_must (refine wpList_append_src rfl (.tmp 39) (.tmp 45) 40 rfl 3 (.int .i64 0) 1 8 Try.underlying40 info_iv rfl (by decide) (.slice ua t uc) t _ rfl HB2 (.slice (some ⟨wr.heap.size, 0, none⟩) 1 1) 1 [.int .i64 (f : Int)] rfl hrn (by intro u hu; simp at hu; subst hu; rfl) h63 hby ?_); intro v7 w7 H7; obtain ⟨va, vc, hv7⟩ := H7.row_form; subst hv7))
        rw [HM.out] at H7
        have H8 := H7.swap.tail
        clear H7
        go_roundg (cs.length - (t + 1))
        case rel => exact ⟨t + 1, va, vc, Lib.hid ⟨by omega, rfl⟩, rfl, by go_num, H8⟩
        case measure => omega
      · obtain rfl : t = cs.length := by omega
        have hti : ¬ (cs.length : Int) < (cs.length : Int) := by omega
        rw [List.take_length] at Hr
        have hr := HR.out
        have hrow2 : Row5 N 8 ss (cs.map fun c => (c + tn) % 8) := ⟨hr.n1, hr.n2, hr.c1, hr.c2, by rw [List.length_map]; exact hr.len, hr.few, hr.syms, fun x hx => by
          obtain ⟨c, -, rfl⟩ := List.mem_map.1 hx
          omega⟩
        have hrow3 : Row5 N 64 ss cs := ⟨hr.n1, hr.n2, by decide, by decide, hr.len, hr.few, hr.syms, fun x hx => by have := hr.ctx x hx; omega⟩
        have het : encN N ss (cs.map fun c => (c + tn) % 8) = encN N ss cs := enc_turn (turn_inj tn) hr.ctx
        have E1 := nencode_calls hr hrv.cons hru.cons Hr
        have E2 := Lib.hid fun (w' : World) (X : HP) (h : Sep w' (X :: HP.row 3 1 (.slice ua cs.length uc) cs.length ((cs.map fun c => (c + tn) % 8).map dv) :: [O])) => nencode_calls (v := .slice sa ss.length sc) (u := .slice ua cs.length uc) hrow2 hrv.cons.cons (by rw [List.length_map]; exact Reads.cons Reads.row) h
        have E3 := Lib.hid fun (w' : World) (X Y Z : HP) (h : Sep w' (X :: Y :: Z :: [O])) => nencode_calls (v := .slice sa ss.length sc) (u := .slice ca cs.length cc) hrow3 hrv.cons.cons.cons hru.cons.cons.cons h
        rw [het] at E2
        have hb := baD_toList_beq (encN_lt N ss cs) (encN_lt N ss cs)
        rw [decide_eq_true rfl] at hb
        generalize encN N ss cs = B at *
        clear hr hrow2 hrow3 het
        have E1 : Calls Try.prog 26 #[.int .i64 (N : Int), .int .i64 8, .slice sa ss.length sc, .slice ca cs.length cc] wr (Gives fun r w'' => ∃ a c, r = .tuple #[.slice a B.length c, .int .i64 0] ∧ Sep w'' (HP.row 5 1 (.slice a B.length c) B.length (B.map bv) :: _)) := E1
        go_wp2_with fail
        refine E1.mono ?_
        rintro _ w4 ⟨_, rfl, ea, ec, rfl, H4⟩
        clear E1 Hr
        have E2 : Calls Try.prog 26 #[.int .i64 (N : Int), .int .i64 8, .slice sa ss.length sc, .slice ua cs.length uc] w4 (Gives fun r w'' => ∃ a c, r = .tuple #[.slice a B.length c, .int .i64 0] ∧ Sep w'' (HP.row 5 1 (.slice a B.length c) B.length (B.map bv) :: _)) := E2.out w4 _ H4
        go_wp2_with fail
        refine E2.mono ?_
        rintro _ w5 ⟨_, rfl, ea2, ec2, rfl, H5⟩
        clear E2 H4
        have E3 : Calls Try.prog 26 #[.int .i64 (N : Int), .int .i64 64, .slice sa ss.length sc, .slice ca cs.length cc] w5 (Gives fun r w'' => ∃ a c, r = .tuple #[.slice a B.length c, .int .i64 0] ∧ Sep w'' (HP.row 5 1 (.slice a B.length c) B.length (B.map bv) :: _)) := E3.out w5 _ _ _ H5
        go_wp2_with fail
        refine E3.mono ?_
        rintro _ w6 ⟨_, rfl, ea3, ec3, rfl, H6⟩
        clear E3 H5
        have c1 := conv_bytes H6.rd
        have c2 := conv_bytes H6.tail.rd
        have c3 := conv_bytes H6.tail.tail.rd
        go_wp2_with fail
        go_ret
        subst HB
        exact ⟨by simp, H6.tail.tail.tail.tail.below⟩
  · have FC := Lib.hid fun (w' : World) (h : Sep w' [O]) => rfits5_calls (n := n) (cx := 8) (by omega) hrv hru h
    have hne : ((fitE n 8 xs ys : Int) != 0) = true := by rw [bne_iff_ne]; omega
    have hne2 : ¬ (fitE n 8 xs ys : Int) = 0 := by omega
    clear hf
    go_enter Try.func10, Try.ntmps10
    go_wp2_with fail
    refine (awake5 H).mono ?_
    rintro e w1 ⟨rfl, H1⟩
    clear H
    have GC := mgreat_calls (hrv _ H1) (hru _ H1)
    rw [HG.out] at GC
    go_wp2_with fail
    refine GC.mono ?_
    rintro _ _ ⟨rfl, rfl⟩
    clear GC
    go_wp2_with fail
    refine (FC.out _ H1).mono ?_
    rintro _ _ ⟨rfl, rfl⟩
    clear FC
    generalize fitE n 8 xs ys = fe at *
    go_wp2_with fail
    refine (awake5 H1).mono ?_
    rintro e w2 ⟨rfl, H2⟩
    go_wp2_with fail
    go_ret
    subst HB
    exact ⟨rfl, H2.below⟩

end Go.Proofs.Ytbhpcpcpccmacaa
