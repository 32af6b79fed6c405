/- residual: Add. -/
import Derived.Test.YtbhpcpcpccmacaaRes3
namespace Go.Proofs.Ytbhpcpcpccmacaa
open Go.RowKit Go.Shelf

/-- Does a residual lead from one coordinate to another? -/
def Good1 (t : Int × Nat) : Prop := OnC t.1 ∧ t.2 ≤ 4194304 ∧ OnC (t.1 + zagZ (t.2 : Int))
instance (t : Int × Nat) : Decidable (Good1 t) := by unfold Good1; exact inferInstance
def Good (q : List Int) (r : List Nat) : Prop := ∀ t ∈ q.zip r, Good1 t
instance (q : List Int) (r : List Nat) : Decidable (Good q r) := by unfold Good; exact inferInstance
def addL (q : List Int) (r : List Nat) : List Int := List.zipWith (fun (a : Int) (u : Nat) => a + zagZ (u : Int)) q r
def addP (q : List Int) (r : List Nat) : List Int := if Good q r then addL q r else [0, 0, 0]
theorem addL_length {q : List Int} {r : List Nat} (hq : q.length = 3) (hr : r.length = 3) : (addL q r).length = 3 := by unfold addL; rw [List.length_zipWith, hq, hr]; rfl
theorem addL_at {q : List Int} {r : List Nat} {k : Nat} (hq : k < q.length) (hr : k < r.length) : ((addL q r).map iv)[k]? = some (.int .i64 (q[k] + zagZ (r[k] : Int))) := by
  have hk : k < (addL q r).length := by unfold addL; rw [List.length_zipWith]; omega
  rw [List.getElem?_map, List.getElem?_eq_getElem hk]
  have e : (addL q r)[k] = q[k] + zagZ (r[k] : Int) := List.getElem_zipWith
  rw [e]
  rfl
theorem zag_small {u : Nat} (h : u ≤ 4194304) : -2097153 ≤ zagZ (u : Int) ∧ zagZ (u : Int) ≤ 2097152 := by unfold zagZ; split <;> omega

set_option maxRecDepth 100000 in
set_option maxHeartbeats 8000000 in
theorem padd_calls {q : List Int} {r : List Nat} (hq : q.length = 3) (hr : r.length = 3) (hr64 : ∀ x ∈ r, x ≤ 18446744073709551615) {F : List HP} {w : World} (H : Sep w F) : Calls Try.prog 33 #[pv q, rv r] w fun e w' => e = .returned (.tuple #[pv (addP q r), .int .i64 (if Good q r then 0 else 2)]) ∧ Sep w' F := by
  have H1 := H.alloc (q.map iv).toArray 23
  have H2 := H1.alloc (r.map uv).toArray 29
  have H3 := H2.alloc #[.int .i64 0, .int .i64 0, .int .i64 0] 23
  have H4 := H3.alloc #[.int .i64 0, .int .i64 0, .int .i64 0] 23
  simp only [World.size_alloc] at H2 H3 H4
  clear H1 H2 H3 H
  have hA : ((addL q r).map iv).length = 3 := by rw [List.length_map]; exact addL_length hq hr
  have e0 : (#[.int .i64 0, .int .i64 0, .int .i64 0] : Array Value) = (fillTo ((addL q r).map iv) (.int .i64 0) 0).toArray := by rw [fillTo_zero, hA]; rfl
  have HE0 := Lib.hid e0
  have HAT := Lib.hid fun (k : Nat) (h1 : k < q.length) (h2 : k < r.length) => addL_at h1 h2
  have HR64 := Lib.hid hr64
  have HZ := Lib.hid fun (k : Nat) (h1 : k < q.length) (h2 : k < r.length) => (List.mem_of_getElem? (show (q.zip r)[k]? = some (q[k], r[k]) by rw [List.getElem?_eq_getElem (by rw [List.length_zip]; omega), List.getElem_zip]))
  have HTK := Lib.hid fun (k : Nat) (h1 : k < q.length) (h2 : k < r.length) => (show (q.zip r).take (k + 1) = (q.zip r).take k ++ [(q[k], r[k])] by rw [List.take_succ_eq_append_getElem (by rw [List.length_zip]; omega), List.getElem_zip])
  have hzl : (q.zip r).length = 3 := by rw [List.length_zip, hq, hr]; rfl
  have HZL := Lib.hid hzl
  obtain ⟨n0, n1, n2, hn⟩ := list_three (addL_length hq hr)
  have HGD : Hid (Good q r → .tuple #[pv (addP q r), .int .i64 (if Good q r then 0 else 2)] = Value.tuple #[.agg #[.int .i64 n0, .int .i64 n1, .int .i64 n2], .int .i64 0]) := Lib.hid fun h => by unfold addP pv; rw [if_pos h, if_pos h, hn]; rfl
  have HBD : Hid (¬ Good q r → .tuple #[pv (addP q r), .int .i64 (if Good q r then 0 else 2)] = Value.tuple #[.agg #[.int .i64 0, .int .i64 0, .int .i64 0], .int .i64 2]) := Lib.hid fun h => by unfold addP pv; rw [if_neg h, if_neg h]; rfl
  obtain ⟨res, hres⟩ : ∃ res : Value, res = .tuple #[pv (addP q r), .int .i64 (if Good q r then 0 else 2)] := ⟨_, rfl⟩
  rw [← hres] at HGD HBD ⊢
  obtain ⟨A, hAA⟩ : ∃ A, A = (addL q r).map iv := ⟨_, rfl⟩
  rw [← hAA] at hA HE0 HAT
  rw [hn] at hAA
  have HN := Lib.hid hAA
  have HA := Lib.hid hA
  have HQ3 := Lib.hid hq
  have HR3 := Lib.hid hr
  clear e0 hAA hn hA hq hr hr64 hzl hres
  unfold pv rv
  go_enter Try.func33, Try.ntmps33
  go_wp2_with fail
  generalize w.heap.size + 1 + 1 + 1 = b6 at *
  generalize w.heap.size + 1 + 1 = b4 at *
  generalize w.heap.size + 1 = b3 at *
  generalize w.heap.size = b2 at *
  go_loopg [8] 3 (fun gk i wr => ∃ k : Nat, Hid (k ≤ 3 ∧ gk = 3 - k ∧ ∀ t ∈ (q.zip r).take k, Good1 t) ∧ i = .int .i64 (k : Int) ∧ Sep wr (HP.pt b6 (fillTo A (.int .i64 0) k).toArray 23 :: HP.pt b4 #[.int .i64 0, .int .i64 0, .int .i64 0] 23 :: HP.pt b3 (r.map uv).toArray 29 :: HP.pt b2 (q.map iv).toArray 23 :: F))
  case atStart => exact ⟨0, Lib.hid ⟨by omega, rfl, by simp⟩, rfl, by rw [← HE0.out]; exact H4⟩
  case round =>
    clear H4
    obtain ⟨k, hq, rfl, Hr⟩ := hrel
    obtain ⟨q1, q2, q3⟩ := hq.out
    have Q3 := Lib.hid q3
    clear hq q3
    by_cases hk : k < 3
    · have hkq : k < q.length := by rw [HQ3.out]; exact hk
      have hkr : k < r.length := by rw [HR3.out]; exact hk
      have hat := HAT.out k hkq hkr
      have HZK := Lib.hid (HZ.out k hkq hkr)
      have HTKK := Lib.hid (HTK.out k hkq hkr)
      have hu64 := HR64.out _ (List.getElem_mem hkr)
      have HKQ := Lib.hid fun (w' : World) (G : List HP) (h : Sep w' (HP.pt b2 (q.map iv).toArray 23 :: G)) => arr_cell h (iv_get hkq)
      have HKR := Lib.hid fun (w' : World) (G : List HP) (h : Sep w' (HP.pt b3 (r.map uv).toArray 29 :: G)) => arr_cell h (uv_at (List.getElem?_eq_getElem hkr))
      have kc : wr.cell? ⟨b6, k, none⟩ = some (.int .i64 0) := arr_cell Hr (fillTo_get (by rw [HA.out]; exact hk))
      have kf := Hr.froz k
      generalize q[k] = x at *
      generalize r[k] = u at *
      have kq := HKQ.out _ _ Hr.tail.tail.tail
      have kr := HKR.out _ _ Hr.tail.tail
      have HATK := Lib.hid hat
      clear hat
      have hki : (k : Int) < 3 := by omega
      have hk0 : ¬ (k : Int) < 0 := by omega
      have d0 := Hr.swap.cell 0 rfl
      have d1 := Hr.swap.cell 1 rfl
      have d2 := Hr.swap.cell 2 rfl
      have f0 := Hr.swap.froz 0
      have f1 := Hr.swap.froz 1
      have f2 := Hr.swap.froz 2
      have HX := Sep.set3 (a0 := .int .i64 0) (a1 := .int .i64 0) (a2 := .int .i64 0) Hr.swap
      have lx := load_pnt rfl HX
      by_cases c1 : 4194304 < u
      · have hci : (4194304 : Int) < (u : Int) := by omega
        have HBB := Lib.hid (HBD.out (fun h => by have := (h _ HZK.out).2.1; simp only at this; omega))
        go_wp2_with fail
        refine bodyPost_ret (results_cell1_tmp rfl rfl lx) rfl ?_
        exact ⟨by rw [HBB.out]; rfl, HX.tail.tail.tail.tail⟩
      have hci : ¬ (4194304 : Int) < (u : Int) := by omega
      by_cases c2 : OnC x
      rotate_left
      · have HBB := Lib.hid (HBD.out (fun h => c2 (h _ HZK.out).1))
        have FC := far_calls (x := x) (w := wr)
        rw [farB_off c2] at FC
        go_wp2_with fail
        refine FC.mono ?_
        rintro _ _ ⟨rfl, rfl⟩
        go_wp2_with fail
        refine bodyPost_ret (results_cell1_tmp rfl rfl lx) rfl ?_
        exact ⟨by rw [HBB.out]; rfl, HX.tail.tail.tail.tail⟩
      clear HX lx d0 d1 d2 f0 f1 f2
      have FC := far_calls (x := x) (w := wr)
      rw [farB_on c2] at FC
      have hc2 := c2
      have HC2 := Lib.hid c2
      clear c2
      unfold OnC at hc2
      obtain ⟨x1, x2⟩ := hc2
      obtain ⟨z1, z2⟩ := zag_small (u := u) (by omega)
      have ZC := zag_calls (u := (u : Int)) (by omega) (by omega) (w := wr.drew)
      generalize hzz : zagZ (u : Int) = zz at *
      have HZZ := Lib.hid hzz
      clear hzz
      have hw1 : IntKind.i64.wrap (x + zz) = x + zz := by
        simp only [IntKind.wrap, IntKind.signed, IntKind.bits]
        first | omega | (simp; omega)
      have hw2 : wrap64 (x + zz) = x + zz := by unfold wrap64; omega
      have H6 := arr_set Hr.drew k (.int .i64 (x + zz))
      rw [fillTo_set HATK.out] at H6
      have kq2 := HKQ.out _ _ H6.tail.tail.tail
      have kr2 := HKR.out _ _ H6.tail.tail
      go_wp2_with fail
      refine FC.mono ?_
      rintro _ _ ⟨rfl, rfl⟩
      clear FC
      go_wp2_with fail
      go_region_held3 (fun w' => w'.cell? ⟨b2, k, none⟩ = some (.int .i64 x) ∧ w'.cell? ⟨b3, k, none⟩ = some (.int .u64 (u : Int))) (first | exact ⟨kq, kr⟩ | exact ⟨kq2, kr2⟩) (first | (go_at_call 64; refine ZC.mono ?_; rintro _ _ ⟨rfl, rfl⟩))
      clear kq kr kc kf kq2 kr2 ZC Hr
      have kc2 := arr_cell H6 (i := k) (v := .int .i64 (x + zz)) (by rw [← fillTo_set HATK.out]; exact List.getElem?_set_self (by unfold fillTo; rw [List.length_append, List.length_take, List.length_replicate, HA.out]; omega))
      have FC2 := far_calls (x := x + zz) (w := (wr.drew.setCell ⟨b6, k, none⟩ (.int .i64 (x + zz))))
      have FC2 : Calls Try.prog 63 #[.int .i64 (x + zz)] (wr.setCell ⟨b6, k, none⟩ (.int .i64 (x + zz))).drew fun e w' => e = .returned (.bool (farB (x + zz))) ∧ (wr.setCell ⟨b6, k, none⟩ (.int .i64 (x + zz))).drew = w' := FC2
      have H6 : Sep (wr.setCell ⟨b6, k, none⟩ (.int .i64 (x + zz))).drew _ := H6
      have kc2 : (wr.setCell ⟨b6, k, none⟩ (.int .i64 (x + zz))).drew.cell? ⟨b6, k, none⟩ = _ := kc2
      generalize (wr.setCell ⟨b6, k, none⟩ (.int .i64 (x + zz))).drew = w6 at *
      by_cases c3 : OnC (x + zz)
      · rw [farB_on c3] at FC2
        have HGG : Hid (∀ t ∈ (q.zip r).take (k + 1), Good1 t) := Lib.hid (by
          rw [HTKK.out]
          intro t ht
          rcases List.mem_append.1 ht with ht | ht
          · exact Q3.out t ht
          · obtain rfl : t = (x, u) := by simpa using ht
            exact ⟨HC2.out, by omega, by simp only; rw [HZZ.out]; exact c3⟩)
        clear c3
        go_wp2_with fail
        refine FC2.mono ?_
        rintro _ _ ⟨rfl, rfl⟩
        clear FC2 kc2
        go_wp2_with fail
        go_roundg (3 - (k + 1))
        case rel => exact ⟨k + 1, Lib.hid ⟨by omega, rfl, HGG.out⟩, by go_num, H6⟩
        case measure => omega
      · have HBB := Lib.hid (HBD.out (fun h => c3 (by have := (h _ HZK.out).2.2; simp only at this; rw [HZZ.out] at this; exact this)))
        rw [farB_off c3] at FC2
        clear c3
        have d0 := H6.swap.cell 0 rfl
        have d1 := H6.swap.cell 1 rfl
        have d2 := H6.swap.cell 2 rfl
        have f0 := H6.swap.froz 0
        have f1 := H6.swap.froz 1
        have f2 := H6.swap.froz 2
        have HX := Sep.set3 (a0 := .int .i64 0) (a1 := .int .i64 0) (a2 := .int .i64 0) H6.swap
        have lx := load_pnt rfl HX
        go_wp2_with fail
        refine FC2.mono ?_
        rintro _ _ ⟨rfl, rfl⟩
        go_wp2_with fail
        refine bodyPost_ret (results_cell1_tmp rfl rfl lx) rfl ?_
        exact ⟨by rw [HBB.out]; rfl, HX.tail.tail.tail.tail⟩
    · obtain rfl : k = 3 := by omega
      have hgood : Good q r := by
        have := Q3.out
        rw [List.take_of_length_le (by rw [HZL.out]; exact Nat.le_refl _)] at this
        exact this
      have HGG := Lib.hid (HGD.out hgood)
      have hall : fillTo A (.int .i64 0) 3 = A := by have := fillTo_all A (.int .i64 0); rw [HA.out] at this; exact this
      rw [hall] at Hr
      have hki : ¬ (3 : Int) < 3 := by omega
      have hAn : A = [.int .i64 n0, .int .i64 n1, .int .i64 n2] := HN.out
      subst hAn
      have k0 := Hr.cell 0 rfl
      have k1 := Hr.cell 1 rfl
      have k2 := Hr.cell 2 rfl
      have d0 := Hr.swap.cell 0 rfl
      have d1 := Hr.swap.cell 1 rfl
      have d2 := Hr.swap.cell 2 rfl
      have f0 := Hr.swap.froz 0
      have f1 := Hr.swap.froz 1
      have f2 := Hr.swap.froz 2
      have H6 := Sep.set3 (a0 := .int .i64 n0) (a1 := .int .i64 n1) (a2 := .int .i64 n2) Hr.swap
      have l4 := load_pnt rfl H6
      clear hall hgood Q3
      go_wp2_with fail
      refine bodyPost_ret (results_cell1_tmp rfl rfl l4) rfl ?_
      exact ⟨by rw [HGG.out]; rfl, H6.tail.tail.tail.tail⟩

end Go.Proofs.Ytbhpcpcpccmacaa
