/- reference 29: Add. -/
import Derived.Test.YtbhpcpcpccmacaaRes4
namespace Go.Proofs.Ytbhpcpcpccmacaa
open Go.RowKit Go.Shelf

theorem good_iff {q : List Int} {r : List Nat} (hq : q.length = 3) (hr : r.length = 3) : Good q r ↔ OnP q ∧ (∀ u ∈ r, u ≤ 4194304) ∧ OnP (addL q r) := by
  obtain ⟨x0, x1, x2, rfl⟩ := list_three hq
  obtain ⟨u0, u1, u2, rfl⟩ := list_three hr
  unfold Good OnP addL Good1
  simp
  constructor
  · rintro ⟨⟨h1, h2, h3⟩, ⟨h4, h5, h6⟩, h7, h8, h9⟩
    exact ⟨⟨h1, h4, h7⟩, ⟨h2, h5, h8⟩, h3, h6, h9⟩
  · rintro ⟨⟨h1, h4, h7⟩, ⟨h2, h5, h8⟩, h3, h6, h9⟩
    exact ⟨⟨h1, h2, h3⟩, ⟨h4, h5, h6⟩, h7, h8, h9⟩

set_option maxRecDepth 100000 in
set_option maxHeartbeats 8000000 in
theorem radd_calls {q : List Int} {r : List Nat} (hq : q.length = 3) (hr : r.length = 3) (hr64 : ∀ x ∈ r, x ≤ 18446744073709551615) {F : List HP} {w : World} (H : Sep w F) : Calls Try.prog 34 #[pv q, rv r] w fun e w' => e = .returned (.tuple #[pv (addP q r), .bool (decide (Good q r))]) ∧ Sep w' F := by
  have H1 := H.alloc (q.map iv).toArray 23
  have H2 := H1.alloc (r.map uv).toArray 29
  have H3 := H2.alloc #[.int .i64 0, .int .i64 0, .int .i64 0] 23
  simp only [World.size_alloc] at H2 H3
  clear H1 H2 H
  have hA : ((addL q r).map iv).length = 3 := by rw [List.length_map]; exact addL_length hq hr
  have e0 : (#[.int .i64 0, .int .i64 0, .int .i64 0] : Array Value) = (fillTo ((addL q r).map iv) (.int .i64 0) 0).toArray := by rw [fillTo_zero, hA]; rfl
  have HE0 := Lib.hid e0
  have HAT := Lib.hid fun (k : Nat) (h1 : k < q.length) (h2 : k < r.length) => addL_at h1 h2
  have HR64 := Lib.hid hr64
  have HGI := Lib.hid (good_iff hq hr)
  obtain ⟨m0, m1, m2, hm⟩ := list_three (addL_length hq hr)
  have HON := Lib.hid fun (G : List HP) (w' : World) (h : Sep w' G) => ron_calls (p := addL q r) (addL_length hq hr) h
  have hpm : pv (addL q r) = .agg #[.int .i64 m0, .int .i64 m1, .int .i64 m2] := by rw [hm]; rfl
  rw [hpm] at HON
  have HGD : Hid (Good q r → .tuple #[pv (addP q r), .bool (decide (Good q r))] = Value.tuple #[.agg #[.int .i64 m0, .int .i64 m1, .int .i64 m2], .bool true]) := Lib.hid fun h => by unfold addP; rw [if_pos h, decide_eq_true h, hpm]
  have HBD : Hid (¬ Good q r → .tuple #[pv (addP q r), .bool (decide (Good q r))] = Value.tuple #[.agg #[.int .i64 0, .int .i64 0, .int .i64 0], .bool false]) := Lib.hid fun h => by unfold addP pv; rw [if_neg h, decide_eq_false h]; rfl
  obtain ⟨res, hres⟩ : ∃ res : Value, res = .tuple #[pv (addP q r), .bool (decide (Good q r))] := ⟨_, rfl⟩
  rw [← hres] at HGD HBD ⊢
  obtain ⟨A, hAA⟩ : ∃ A, A = (addL q r).map iv := ⟨_, rfl⟩
  rw [← hAA] at hA HE0 HAT
  rw [hm] at hAA
  have HN := Lib.hid hAA
  have HA := Lib.hid hA
  have HQ3 := Lib.hid hq
  have HR3 := Lib.hid hr
  obtain ⟨x0, x1, x2, hx⟩ := list_three hq
  have OQ := Lib.hid fun (G : List HP) (w' : World) (h : Sep w' G) => ron_calls (p := q) hq h
  have hpq : pv q = .agg #[.int .i64 x0, .int .i64 x1, .int .i64 x2] := by rw [hx]; rfl
  rw [hpq] at OQ
  have hqm : q.map iv = [.int .i64 x0, .int .i64 x1, .int .i64 x2] := by rw [hx]; rfl
  have c0 := arr_cell H3.tail.tail (i := 0) (v := .int .i64 x0) (by rw [hqm]; rfl)
  have c1 := arr_cell H3.tail.tail (i := 1) (v := .int .i64 x1) (by rw [hqm]; rfl)
  have c2 := arr_cell H3.tail.tail (i := 2) (v := .int .i64 x2) (by rw [hqm]; rfl)
  clear e0 hAA hm hA hq hr hr64 hres hpm hx hpq hqm
  unfold pv rv
  go_enter Try.func34, Try.ntmps34
  go_wp2_with fail
  generalize w.heap.size + 1 + 1 = b4 at *
  generalize w.heap.size + 1 = b3 at *
  generalize w.heap.size = b2 at *
  generalize ((w.alloc _).alloc _).alloc _ = w3 at *
  refine (OQ.out _ _ H3).mono ?_
  rintro _ w4 ⟨rfl, H4⟩
  clear H3 c0 c1 c2 OQ
  have d0 := H4.cell 0 rfl
  have d1 := H4.cell 1 rfl
  have d2 := H4.cell 2 rfl
  have f0 := H4.froz 0
  have f1 := H4.froz 1
  have f2 := H4.froz 2
  by_cases hon : OnP q
  rotate_left
  · have HBB := Lib.hid (HBD.out (fun h => hon ((HGI.out.1 h).1)))
    rw [decide_eq_false hon]
    clear hon
    have HX := Sep.set3 (a0 := .int .i64 0) (a1 := .int .i64 0) (a2 := .int .i64 0) H4
    have lx := load_pnt rfl HX
    go_wp2_with fail
    refine bodyPost_ret (results_cell1_tmp rfl rfl lx) rfl ?_
    exact ⟨by rw [HBB.out]; rfl, HX.tail.tail.tail⟩
  rw [decide_eq_true hon]
  have HOQ := Lib.hid hon
  clear hon d0 d1 d2 f0 f1 f2
  have H5 := H4.alloc #[.int .i64 0, .int .i64 0, .int .i64 0] 23
  go_wp2_with fail
  generalize w4.heap.size = b6 at *
  generalize w4.alloc _ = w5 at *
  clear H4
  go_loopg [7] 3 (fun gk i wr => ∃ k : Nat, Hid (k ≤ 3 ∧ gk = 3 - k ∧ ∀ u ∈ r.take k, u ≤ 4194304) ∧ i = .int .i64 (k : Int) ∧ Sep wr (HP.pt b6 (fillTo A (.int .i64 0) k).toArray 23 :: HP.pt b4 #[.int .i64 0, .int .i64 0, .int .i64 0] 23 :: HP.pt b3 (r.map uv).toArray 29 :: HP.pt b2 (q.map iv).toArray 23 :: F))
  case atStart => exact ⟨0, Lib.hid ⟨by omega, rfl, by simp⟩, rfl, by rw [← HE0.out]; exact H5⟩
  case round =>
    clear H5
    obtain ⟨k, hq, rfl, Hr⟩ := hrel
    obtain ⟨q1, q2, q3⟩ := hq.out
    have Q3 := Lib.hid q3
    clear hq q3
    by_cases hk : k < 3
    · have hkq : k < q.length := by rw [HQ3.out]; exact hk
      have hkr : k < r.length := by rw [HR3.out]; exact hk
      have hat := HAT.out k hkq hkr
      have HTKK := Lib.hid (List.take_succ_eq_append_getElem hkr)
      have HMU := Lib.hid (List.getElem_mem hkr)
      have hu64 := HR64.out _ (List.getElem_mem hkr)
      have hox := HOQ.out _ (List.getElem_mem hkq)
      have HKQ := Lib.hid fun (w' : World) (G : List HP) (h : Sep w' (HP.pt b2 (q.map iv).toArray 23 :: G)) => arr_cell h (iv_get hkq)
      have HKR := Lib.hid fun (w' : World) (G : List HP) (h : Sep w' (HP.pt b3 (r.map uv).toArray 29 :: G)) => arr_cell h (uv_at (List.getElem?_eq_getElem hkr))
      have kc : wr.cell? ⟨b6, k, none⟩ = some (.int .i64 0) := arr_cell Hr (fillTo_get (by rw [HA.out]; exact hk))
      have kf := Hr.froz k
      generalize q[k] = x at *
      generalize r[k] = u at *
      have kq := HKQ.out _ _ Hr.tail.tail.tail
      have kr := HKR.out _ _ Hr.tail.tail
      have HATK := Lib.hid hat
      clear hat
      have hki : (k : Int) < 3 := by omega
      have hk0 : ¬ (k : Int) < 0 := by omega
      unfold OnC at hox
      obtain ⟨x1', x2'⟩ := hox
      by_cases c1 : 4194304 < u
      · have hci : (4194304 : Int) < (u : Int) := by omega
        have HBB := Lib.hid (HBD.out (fun h => by have := (HGI.out.1 h).2.1 u HMU.out; omega))
        have d0 := Hr.swap.cell 0 rfl
        have d1 := Hr.swap.cell 1 rfl
        have d2 := Hr.swap.cell 2 rfl
        have f0 := Hr.swap.froz 0
        have f1 := Hr.swap.froz 1
        have f2 := Hr.swap.froz 2
        have HX := Sep.set3 (a0 := .int .i64 0) (a1 := .int .i64 0) (a2 := .int .i64 0) Hr.swap
        have lx := load_pnt rfl HX
        go_wp2_with fail
        refine bodyPost_ret (results_cell1_tmp rfl rfl lx) rfl ?_
        exact ⟨by rw [HBB.out]; rfl, HX.tail.tail.tail.tail⟩
      have hci : ¬ (4194304 : Int) < (u : Int) := by omega
      have HGG : Hid (∀ u ∈ r.take (k + 1), u ≤ 4194304) := Lib.hid (by
        rw [HTKK.out]
        intro t ht
        rcases List.mem_append.1 ht with ht | ht
        · exact Q3.out t ht
        · have : t = u := by simpa using ht
          omega)
      obtain ⟨z1, z2⟩ := zag_small (u := u) (by omega)
      have ZC := rzag29_calls (u := (u : Int)) (by omega) (by omega) (w := wr.drew)
      generalize zagZ (u : Int) = zz at *
      have hw1 : IntKind.i64.wrap (x + zz) = x + zz := by
        simp only [IntKind.wrap, IntKind.signed, IntKind.bits]
        first | omega | (simp; omega)
      have hw2 : wrap64 (x + zz) = x + zz := by unfold wrap64; omega
      have H6 := arr_set Hr.drew k (.int .i64 (x + zz))
      rw [fillTo_set HATK.out] at H6
      have kq2 := HKQ.out _ _ H6.tail.tail.tail
      have kr2 := HKR.out _ _ H6.tail.tail
      go_wp2_with fail
      go_region_held3 (fun w' => w'.cell? ⟨b2, k, none⟩ = some (.int .i64 x) ∧ w'.cell? ⟨b3, k, none⟩ = some (.int .u64 (u : Int))) (first | exact ⟨kq, kr⟩ | exact ⟨kq2, kr2⟩) (first | (go_at_call 65; refine ZC.mono ?_; rintro _ _ ⟨rfl, rfl⟩))
      clear kq kr kc kf kq2 kr2 ZC Hr
      have H6 : Sep (wr.setCell ⟨b6, k, none⟩ (.int .i64 (x + zz))).drew _ := H6
      generalize (wr.setCell ⟨b6, k, none⟩ (.int .i64 (x + zz))).drew = w6 at *
      go_wp2_with fail
      go_roundg (3 - (k + 1))
      case rel => exact ⟨k + 1, Lib.hid ⟨by omega, rfl, HGG.out⟩, by go_num, H6⟩
      case measure => omega
    · obtain rfl : k = 3 := by omega
      have hfine := Q3.out
      rw [List.take_of_length_le (by rw [HR3.out]; exact Nat.le_refl _)] at hfine
      have HFI := Lib.hid hfine
      have hall : fillTo A (.int .i64 0) 3 = A := by have := fillTo_all A (.int .i64 0); rw [HA.out] at this; exact this
      rw [hall] at Hr
      have hki : ¬ (3 : Int) < 3 := by omega
      have hAn : A = [.int .i64 m0, .int .i64 m1, .int .i64 m2] := HN.out
      subst hAn
      have k0 := Hr.cell 0 rfl
      have k1 := Hr.cell 1 rfl
      have k2 := Hr.cell 2 rfl
      clear hall Q3 hfine
      go_wp2_with fail
      refine (HON.out _ _ Hr).mono ?_
      rintro _ w7 ⟨rfl, H7⟩
      clear k0 k1 k2 Hr
      have k0 := H7.cell 0 rfl
      have k1 := H7.cell 1 rfl
      have k2 := H7.cell 2 rfl
      have d0 := H7.swap.cell 0 rfl
      have d1 := H7.swap.cell 1 rfl
      have d2 := H7.swap.cell 2 rfl
      have f0 := H7.swap.froz 0
      have f1 := H7.swap.froz 1
      have f2 := H7.swap.froz 2
      by_cases hoa : OnP (addL q r)
      · have HGG := Lib.hid (HGD.out (HGI.out.2 ⟨HOQ.out, HFI.out, hoa⟩))
        rw [decide_eq_true hoa]
        clear hoa
        have H6 := Sep.set3 (a0 := .int .i64 m0) (a1 := .int .i64 m1) (a2 := .int .i64 m2) H7.swap
        have l4 := load_pnt rfl H6
        go_wp2_with fail
        refine bodyPost_ret (results_cell1_tmp rfl rfl l4) rfl ?_
        exact ⟨by rw [HGG.out]; rfl, H6.tail.tail.tail.tail⟩
      · have HBB := Lib.hid (HBD.out (fun h => hoa ((HGI.out.1 h).2.2)))
        rw [decide_eq_false hoa]
        clear hoa
        have HX := Sep.set3 (a0 := .int .i64 0) (a1 := .int .i64 0) (a2 := .int .i64 0) H7.swap
        have lx := load_pnt rfl HX
        go_wp2_with fail
        refine bodyPost_ret (results_cell1_tmp rfl rfl lx) rfl ?_
        exact ⟨by rw [HBB.out]; rfl, HX.tail.tail.tail.tail⟩

end Go.Proofs.Ytbhpcpcpccmacaa
