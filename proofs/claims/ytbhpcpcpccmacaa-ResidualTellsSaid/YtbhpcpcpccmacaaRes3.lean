/- residual: Of. -/
import Derived.Test.YtbhpcpcpccmacaaRes2
namespace Go.Proofs.Ytbhpcpcpccmacaa
open Go.RowKit Go.Shelf

def ofL (p q : List Int) : List Nat := List.zipWith (fun a b => (zigZ (a - b)).toNat) p q
theorem ofL_length {p q : List Int} (hp : p.length = 3) (hq : q.length = 3) : (ofL p q).length = 3 := by unfold ofL; rw [List.length_zipWith, hp, hq]; rfl
theorem ofL_at {p q : List Int} {k : Nat} (hp : k < p.length) (hq : k < q.length) (h1 : OnC p[k]) (h2 : OnC q[k]) : ((ofL p q).map uv)[k]? = some (.int .u64 (zigZ (p[k] - q[k]))) := by
  have hk : k < (ofL p q).length := by unfold ofL; rw [List.length_zipWith]; omega
  rw [List.getElem?_map, List.getElem?_eq_getElem hk]
  have e : (ofL p q)[k] = (zigZ (p[k] - q[k])).toNat := List.getElem_zipWith
  unfold OnC at h1 h2
  have hz := zigZ_range (n := p[k] - q[k]) (by omega) (by omega)
  rw [e]
  show some (Value.int .u64 (((zigZ (p[k] - q[k])).toNat : Nat) : Int)) = _
  rw [Int.toNat_of_nonneg hz.1]
theorem load_arr {w : World} {b : Nat} {c : Array Value} (hc : c.size = 3) {F : List HP} (H : Sep w (HP.pt b c 29 :: F)) : (loadVar 29 ⟨b, 0, none⟩).run Try.prog w = .ok (.agg c) w :=
  run_loadVar_row w b 29 29 c (0, 0) _ H.heap Try.underlying29 rfl (by rw [hc]; kernel_rfl)
theorem load_pnt {w : World} {b : Nat} {c : Array Value} (hc : c.size = 3) {F : List HP} (H : Sep w (HP.pt b c 23 :: F)) : (loadVar 23 ⟨b, 0, none⟩).run Try.prog w = .ok (.agg c) w :=
  run_loadVar_row w b 23 23 c (0, 0) _ H.heap Try.underlying23 rfl (by rw [hc]; kernel_rfl)

theorem Sep.set3 {w : World} {b : Nat} {x0 x1 x2 a0 a1 a2 : Value} {T : TypeId} {F : List HP} (H : Sep w (HP.pt b #[x0, x1, x2] T :: F)) : Sep (((w.setCell ⟨b, 0, none⟩ a0).setCell ⟨b, 1, none⟩ a1).setCell ⟨b, 2, none⟩ a2) (HP.pt b #[a0, a1, a2] T :: F) := by
  have h := ((H.set 0 a0).set 1 a1).set 2 a2
  simpa using h
theorem list_three {α : Type} {l : List α} (h : l.length = 3) : ∃ a b c, l = [a, b, c] := by
  match l, h with
  | [a, b, c], _ => exact ⟨a, b, c, rfl⟩

set_option maxRecDepth 100000 in
set_option maxHeartbeats 4000000 in
theorem pof_calls {p q : List Int} (hp : p.length = 3) (hq : q.length = 3) (op : OnP p) (oq : OnP q) {F : List HP} {w : World} (H : Sep w F) : Calls Try.prog 21 #[pv p, pv q] w fun e w' => e = .returned (rv (ofL p q)) ∧ Sep w' F := by
  have H1 := H.alloc (p.map iv).toArray 23
  have H2 := H1.alloc (q.map iv).toArray 23
  have H3 := H2.alloc #[.int .u64 0, .int .u64 0, .int .u64 0] 29
  have H4 := H3.alloc #[.int .u64 0, .int .u64 0, .int .u64 0] 29
  simp only [World.size_alloc] at H2 H3 H4
  clear H1 H2 H3 H
  have hA : ((ofL p q).map uv).length = 3 := by rw [List.length_map]; exact ofL_length hp hq
  have e0 : (#[.int .u64 0, .int .u64 0, .int .u64 0] : Array Value) = (fillTo ((ofL p q).map uv) (.int .u64 0) 0).toArray := by rw [fillTo_zero, hA]; rfl
  have HE0 := Lib.hid e0
  have HAT := Lib.hid fun (k : Nat) (h1 : k < p.length) (h2 : k < q.length) => ofL_at h1 h2 (op _ (List.getElem_mem h1)) (oq _ (List.getElem_mem h2))
  have HOP := Lib.hid fun (k : Nat) (h1 : k < p.length) => op _ (List.getElem_mem h1)
  have HOQ := Lib.hid fun (k : Nat) (h1 : k < q.length) => oq _ (List.getElem_mem h1)
  unfold rv
  obtain ⟨n0, n1, n2, hn⟩ := list_three (ofL_length hp hq)
  obtain ⟨A, hAA⟩ : ∃ A, A = (ofL p q).map uv := ⟨_, rfl⟩
  rw [← hAA] at hA HE0 HAT ⊢
  rw [hn] at hAA
  have HN := Lib.hid hAA
  have HA := Lib.hid hA
  have HP3 := Lib.hid hp
  have HQ3 := Lib.hid hq
  clear e0 hAA hn hA hp hq op oq
  unfold pv
  go_enter Try.func21, Try.ntmps21
  go_wp2_with fail
  generalize w.heap.size + 1 + 1 + 1 = b5 at *
  generalize w.heap.size + 1 + 1 = b4 at *
  generalize w.heap.size + 1 = b3 at *
  generalize w.heap.size = b2 at *
  go_loopg [7] 3 (fun gk i wr => ∃ k : Nat, Hid (k ≤ 3 ∧ gk = 3 - k) ∧ i = .int .i64 (k : Int) ∧ Sep wr (HP.pt b5 (fillTo A (.int .u64 0) k).toArray 29 :: HP.pt b4 #[.int .u64 0, .int .u64 0, .int .u64 0] 29 :: HP.pt b3 (q.map iv).toArray 23 :: HP.pt b2 (p.map iv).toArray 23 :: F))
  case atStart => exact ⟨0, Lib.hid ⟨by omega, rfl⟩, rfl, by rw [← HE0.out]; exact H4⟩
  case round =>
    clear H4
    obtain ⟨k, hq, rfl, Hr⟩ := hrel
    obtain ⟨q1, q2⟩ := hq.out
    clear hq
    by_cases hk : k < 3
    · have hkp : k < p.length := by rw [HP3.out]; exact hk
      have hkq : k < q.length := by rw [HQ3.out]; exact hk
      have hat := HAT.out k hkp hkq
      have hop := HOP.out k hkp
      have hoq := HOQ.out k hkq
      have kp : wr.cell? ⟨b2, k, none⟩ = some (.int .i64 p[k]) := arr_cell Hr.tail.tail.tail (iv_get hkp)
      have kq : wr.cell? ⟨b3, k, none⟩ = some (.int .i64 q[k]) := arr_cell Hr.tail.tail (iv_get hkq)
      have kc : wr.cell? ⟨b5, k, none⟩ = some (.int .u64 0) := arr_cell Hr (fillTo_get (by rw [HA.out]; exact hk))
      have kf := Hr.froz k
      have HKP := Lib.hid fun (w' : World) (G : List HP) (h : Sep w' (HP.pt b2 (p.map iv).toArray 23 :: G)) => arr_cell h (iv_get hkp)
      have HKQ := Lib.hid fun (w' : World) (G : List HP) (h : Sep w' (HP.pt b3 (q.map iv).toArray 23 :: G)) => arr_cell h (iv_get hkq)
      generalize p[k] = x at *
      generalize q[k] = y at *
      unfold OnC at hop hoq
      obtain ⟨x1, x2⟩ := hop
      obtain ⟨y1, y2⟩ := hoq
      have H6 := arr_set Hr.drew k (.int .u64 (zigZ (x - y)))
      rw [fillTo_set hat] at H6
      have HK := Lib.hid hat
      clear hat
      have ZC := zig_calls (n := x - y) (by omega) (by omega) (w := wr.drew)
      have hw1 : IntKind.i64.wrap (x - y) = x - y := by
        simp only [IntKind.wrap, IntKind.signed, IntKind.bits]
        first | omega | (simp; omega)
      have hw2 : wrap64 (x - y) = x - y := by unfold wrap64; omega
      have hki : (k : Int) < 3 := by omega
      have hk0 : ¬ (k : Int) < 0 := by omega
      have kp2 := HKP.out _ _ H6.tail.tail.tail
      have kq2 := HKQ.out _ _ H6.tail.tail
      go_wp2_with fail
      go_region_held3 (fun w' => w'.cell? ⟨b2, k, none⟩ = some (.int .i64 x) ∧ w'.cell? ⟨b3, k, none⟩ = some (.int .i64 y)) (first | exact ⟨kp, kq⟩ | exact ⟨kp2, kq2⟩) (first | (go_at_call 43; refine ZC.mono ?_; rintro _ _ ⟨rfl, rfl⟩))
      clear kp kq kc kf kp2 kq2 ZC
      go_wp2_with fail
      go_roundg (3 - (k + 1))
      case rel => exact ⟨k + 1, Lib.hid ⟨by omega, rfl⟩, by go_num, H6⟩
      case measure => omega
    · obtain rfl : k = 3 := by omega
      have hall : fillTo A (.int .u64 0) 3 = A := by have := fillTo_all A (.int .u64 0); rw [HA.out] at this; exact this
      rw [hall] at Hr
      have hki : ¬ (3 : Int) < 3 := by omega
      have hAn : A = [.int .u64 (n0 : Int), .int .u64 (n1 : Int), .int .u64 (n2 : Int)] := HN.out
      subst hAn
      have k0 := Hr.cell 0 rfl
      have k1 := Hr.cell 1 rfl
      have k2 := Hr.cell 2 rfl
      have d0 := Hr.swap.cell 0 rfl
      have d1 := Hr.swap.cell 1 rfl
      have d2 := Hr.swap.cell 2 rfl
      have f0 := Hr.swap.froz 0
      have f1 := Hr.swap.froz 1
      have f2 := Hr.swap.froz 2
      have H6 := Sep.set3 (a0 := .int .u64 (n0 : Int)) (a1 := .int .u64 (n1 : Int)) (a2 := .int .u64 (n2 : Int)) Hr.swap
      have l4 := load_arr rfl H6
      clear hall
      go_wp2_with fail
      refine bodyPost_ret (results_cell1 rfl rfl l4) rfl ?_
      exact ⟨rfl, H6.tail.tail.tail.tail⟩

end Go.Proofs.Ytbhpcpcpccmacaa
