/- Law 05: ints, great, awake. -/
import Derived.Test.YtbhpcpcpccmacaaMod8
import Derived.Test.YtbhpcpcpccmacaaMod9
namespace Go.Proofs.Ytbhpcpcpccmacaa
open Go.RowKit Go.Shelf

theorem ret_bool5 {a b : Bool} (h : a = b) : Ending.returned (.bool a) = .returned (.bool b) := by rw [h]
theorem take_succ_eqI {xs ys : List Int} {k : Nat} (h1 : k < xs.length) (h2 : k < ys.length) (h : xs.take k = ys.take k) (e : xs[k] = ys[k]) : xs.take (k + 1) = ys.take (k + 1) := by
  rw [List.take_succ_eq_append_getElem h1, List.take_succ_eq_append_getElem h2, h, e]

set_option maxRecDepth 100000 in
set_option maxHeartbeats 2000000 in
theorem ints_calls {va vb : Value} {xs ys : List Int} {w : World} (hx : xs.length ≤ 1099511627776) (ha : RdS w va xs.length 1 (xs.map iv)) (hb : RdS w vb ys.length 1 (ys.map iv)) :
    Calls Try.prog 31 #[va, vb] w fun e w' => e = .returned (.bool (decide (xs = ys))) ∧ ∃ n, w' = w.drewN n := by
  obtain ⟨a1, c1, rfl⟩ := ha.form
  obtain ⟨a2, c2, rfl⟩ := hb.form
  by_cases hlen : xs.length = ys.length
  · have hl : ((xs.length : Int) != (ys.length : Int)) = false := by rw [bne_eq_false_iff_eq]; omega
    have hle : (xs.length : Int) = (ys.length : Int) := by omega
    have HL := Lib.hid hlen; clear hlen
    go_enter Try.func31, Try.ntmps31
    go_wp2_with fail
    clear hle
    go_loopg [13] xs.length (fun gk i wr => ∃ k m : Nat, Hid (k ≤ xs.length ∧ gk = xs.length - k) ∧ i = .int .i64 (k : Int) ∧ wr = w.drewN m ∧ Hid (xs.take k = ys.take k))
    case atStart => exact ⟨0, 0, Lib.hid ⟨by omega, rfl⟩, rfl, rfl, rfl⟩
    case round =>
      obtain ⟨k, m, hq, rfl, rfl, hpre⟩ := hrel
      obtain ⟨hk, q2⟩ := hq.out
      clear hq
      by_cases hlt : k < xs.length
      · have hlt2 : k < ys.length := by have := HL.out; omega
        obtain ⟨g1, o1, d1, he⟩ := ha.open (by omega)
        simp only [Value.slice.injEq, true_and] at he
        obtain ⟨rfl, rfl⟩ := he
        obtain ⟨g2, o2, d2, he⟩ := hb.open (by omega)
        simp only [Value.slice.injEq, true_and] at he
        obtain ⟨rfl, rfl⟩ := he
        have k1 : w.cell? ⟨g1, o1 + k, none⟩ = some (.int .i64 xs[k]) := ha.cell _ (iv_get hlt)
        have k2 : w.cell? ⟨g2, o2 + k, none⟩ = some (.int .i64 ys[k]) := hb.cell _ (iv_get hlt2)
        have hi1 : (k : Int) < (xs.length : Int) := by omega
        have hi2 : (k : Int) < (ys.length : Int) := by omega
        by_cases heq : xs[k] = ys[k]
        · have hne : (xs[k] != ys[k]) = false := by rw [bne_eq_false_iff_eq]; exact heq
          have HE := Lib.hid heq; clear heq
          generalize hA : xs[k] = A at *
          generalize hB : ys[k] = B at *
          have HA := Lib.hid hA
          have HB := Lib.hid hB
          clear hA hB
          go_wp2_with fail
          (refine wp_region_quiet_lit (by kernel_rfl) (by kernel_rfl) ?_; (repeat (first | go_big_quiet_skip | (go_big_quiet_want; go_big_quiet_op; (try go_bits); first | go_big_quiet_on | go_big_quiet_call (fail)))); refine wpQuiet_nil ?_; intro _ hw'; obtain ⟨nq, hw''⟩ := hw'; subst hw'')
          rw [World.drewN_drewN]
          go_wp2_with fail
          go_roundg (xs.length - (k + 1))
          case rel => exact ⟨k + 1, m + nq, Lib.hid ⟨by omega, rfl⟩, by go_num, rfl, Lib.hid (take_succ_eqI hlt hlt2 hpre.out (HA.out.trans (HE.out.trans HB.out.symm)))⟩
          case measure => omega
        · have hne : (xs[k] != ys[k]) = true := by rw [bne_iff_ne]; exact heq
          have HE := Lib.hid heq; clear heq
          generalize hA : xs[k] = A at *
          generalize hB : ys[k] = B at *
          have HA := Lib.hid hA
          have HB := Lib.hid hB
          clear hA hB
          go_wp2_with fail
          (refine wp_region_quiet_lit (by kernel_rfl) (by kernel_rfl) ?_; (repeat (first | go_big_quiet_skip | (go_big_quiet_want; go_big_quiet_op; (try go_bits); first | go_big_quiet_on | go_big_quiet_call (fail)))); refine wpQuiet_nil ?_; intro _ hw'; obtain ⟨nq, hw''⟩ := hw'; subst hw'')
          rw [World.drewN_drewN]
          go_wp2_with fail
          go_ret
          refine ⟨ret_bool5 ?_, _, rfl⟩
          have : xs ≠ ys := by
            intro e
            subst e
            exact HE.out (HA.out.symm.trans HB.out)
          exact (decide_eq_false this).symm
      · have hi2 : ¬ (k : Int) < (ys.length : Int) := by have := HL.out; omega
        go_wp2_with fail
        go_ret
        refine ⟨ret_bool5 ?_, m, rfl⟩
        have h1 := hpre.out
        have h2 := HL.out
        rw [List.take_of_length_le (by omega), List.take_of_length_le (by omega)] at h1
        exact (decide_eq_true h1).symm
  · have hl : ((xs.length : Int) != (ys.length : Int)) = true := by rw [bne_iff_ne]; omega
    have hle : ¬ (xs.length : Int) = (ys.length : Int) := by omega
    have hd : decide (xs = ys) = false := decide_eq_false fun e => hlen (by rw [e])
    rw [hd]
    clear hd
    go_enter Try.func31, Try.ntmps31
    go_wp2_with fail
    go_ret
    exact ⟨rfl, 0, rfl⟩

set_option maxRecDepth 100000 in
theorem mgreat_calls {va vb : Value} {xs ys : List Value} {n m : Nat} {w : World} (ha : RdS w va n 1 xs) (hb : RdS w vb m 1 ys) :
    Calls Try.prog 25 #[va, vb] w fun e w' => e = .returned (.bool (decide (200 < n ∨ 200 < m))) ∧ w = w' := by
  obtain ⟨a1, c1, rfl⟩ := ha.form
  obtain ⟨a2, c2, rfl⟩ := hb.form
  go_enter Try.func25, Try.ntmps25
  go_wp2_with fail
  all_goals (go_ret; refine ⟨ret_bool5 ?_, rfl⟩; rw [Bool.eq_iff_iff]; simp; omega)

theorem enc_awake : encN 4 [3, 0, 2] [0, 0, 0] = [0, 200] := by
  have hx : ¬ OkN ((mrun 4 (List.zip [0, 0, 0] [3, 0, 2])).1.1 + 4) (mrun 4 (List.zip [0, 0, 0] [3, 0, 2])).1.2.1 (mrun 4 (List.zip [0, 0, 0] [3, 0, 2])).1.2.2 0 := by decide +kernel
  have hp : plainB 4 [3, 0, 2] = [0, 200] := by decide +kernel
  unfold encN
  rw [hp, if_neg]
  intro hlt
  unfold codedB at hlt
  simp only [List.length_cons, List.length_nil] at hlt
  obtain ⟨n, -, -, h3, hc⟩ := codeB_is (mrun 4 (List.zip [0, 0, 0] [3, 0, 2])).1
  have hl : (codeB (mrun 4 (List.zip [0, 0, 0] [3, 0, 2])).1).length = n := by rw [hc, digs_length]
  obtain rfl : n = 0 := by omega
  exact hx h3

set_option maxRecDepth 100000 in
set_option maxHeartbeats 8000000 in
theorem awake5 {F : List HP} {w : World} (H : Sep w F) :
    Calls Try.prog 24 #[] w fun e w' => e = .returned (.bool true) ∧ Sep w' F := by
  have H1 := H.alloc #[.int .i64 3, .int .i64 0, .int .i64 2] 3
  have hz1 : (w.alloc (.cells #[.int .i64 3, .int .i64 0, .int .i64 2] 3)).heap.size = w.heap.size + 1 := World.size_alloc _ _
  have H2 := H1.alloc #[.int .i64 0, .int .i64 0, .int .i64 0] 3
  rw [hz1] at H2
  have EC := mencode_calls (v := .slice (some ⟨w.heap.size, 0, none⟩) 3 3) (u := .slice (some ⟨w.heap.size + 1, 0, none⟩) 3 3) (n := 4) (cx := 1) (syms := [3, 0, 2]) (ctx := [0, 0, 0]) (by exact fun w' h => rd_pt rfl h.tail) (by exact fun w' h => rd_pt rfl h) H2
  clear hz1 H1 H
  go_enter Try.func24, Try.ntmps24
  go_wp2_with fail
  refine EC.mono ?_
  rintro _ w3 ⟨_, rfl, ⟨hf, -, -⟩ | ⟨-, u3, rfl, H3⟩⟩
  · exact absurd (by decide) hf
  have heb : encB 4 [3, 0, 2] [0, 0, 0] = [0, 200] := enc_awake
  rw [heb] at H3
  obtain ⟨ea, ec, rfl⟩ := H3.row_form
  obtain ⟨g, cp, _, hsv, hcp, -⟩ := H3.row_open (by decide)
  simp only [Value.slice.injEq, true_and] at hsv
  obtain ⟨rfl, rfl⟩ := hsv
  have H4 := H3.alloc #[.int .i64 0, .int .i64 0, .int .i64 0] 3
  clear EC H2 heb
  have DC := mdecode_calls (a := some ⟨g, 0, none⟩) (u := .slice (some ⟨w3.heap.size, 0, none⟩) 3 3) (n := 4) (cx := 1) (ctx := [0, 0, 0]) (b := [0, 200]) hcp (by decide) (by decide) (by exact Reads.cons Reads.row) (by exact fun w' h => rd_pt rfl h) H4
  go_wp2_with fail
  refine DC.mono ?_
  rintro _ w5 ⟨_, rfl, ⟨hf, -, -⟩ | ⟨-, ss, u5, hss, -, huq, rfl, H5⟩ | ⟨-, hno, -, -⟩⟩
  · exact absurd (by decide) hf
  rotate_left
  · exact absurd enc_awake (hno [3, 0, 2] ⟨rfl, by decide⟩)
  obtain rfl := huq [3, 0, 2] ⟨rfl, by decide⟩ enc_awake
  obtain ⟨la, lc, rfl⟩ := H5.row_form
  clear DC H4 H3 huq hss
  have c0 := H5.tail.tail.row_cell 0 (show (([0, 200] : List Nat).map bv)[0]? = some (.int .u8 0) from rfl)
  have c1 := H5.tail.tail.row_cell 1 (show (([0, 200] : List Nat).map bv)[1]? = some (.int .u8 200) from rfl)
  have H6 := H5.alloc #[.int .i64 3, .int .i64 0, .int .i64 2] 3
  have IC := ints_calls (va := .slice la 3 lc) (vb := .slice (some ⟨w5.heap.size, 0, none⟩) 3 3) (xs := [3, 0, 2]) (ys := [3, 0, 2]) (by decide) (by exact H6.tail.rd) (by exact rd_pt rfl H6)
  rw [decide_eq_true rfl] at IC
  have hcr : ([0, 0, 0] : List Int).length = 3 := rfl
  go_wp2_with fail
  refine IC.mono ?_
  rintro _ _ ⟨rfl, n, rfl⟩
  have H7 := H6.drewN n
  clear IC
  have PC := mplain_calls (n := 4) (v := .slice la 3 lc) (m := 3) (by decide) (by exact H7.tail.rd)
  have hpv : (if (4 : Int) < 1 ∨ 256 < (4 : Int) then (0 : Int) else ((1 + (3 * widthN 4 + 7) / 8 : Nat) : Int)) = 2 := by decide +kernel
  rw [hpv] at PC
  go_wp2_with fail
  refine PC.mono ?_
  rintro _ _ ⟨rfl, rfl⟩
  go_wp2_with fail
  go_ret
  exact ⟨rfl, H7.tail.tail.tail.tail.tail.tail⟩

end Go.Proofs.Ytbhpcpcpccmacaa
