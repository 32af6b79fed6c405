/- residual: points and residuals: far, On, zig, zag. -/
import Derived.Test.YtbhpcpcpccmacaaGD
import Derived.Test.YtbhpcpcpccmacaaGG
import Derived.Test.YtbhpcpcpccmacaaGL
namespace Go.Proofs.Ytbhpcpcpccmacaa
open Go.RowKit Go.Shelf

/-- A number of 64 bits. -/
def uv (x : Nat) : Value := .int .u64 (x : Int)
/-- Is a coordinate in the lattice? -/
def OnC (x : Int) : Prop := -1048576 ≤ x ∧ x ≤ 1048576
instance (x : Int) : Decidable (OnC x) := by unfold OnC; exact inferInstance
def OnP (p : List Int) : Prop := ∀ x ∈ p, OnC x
instance (p : List Int) : Decidable (OnP p) := by unfold OnP; exact inferInstance
def pv (p : List Int) : Value := .agg (p.map iv).toArray
def rv (r : List Nat) : Value := .agg (r.map uv).toArray
theorem ret_b {a b : Bool} (h : a = b) : Ending.returned (.bool a) = .returned (.bool b) := by rw [h]
theorem uv_at {l : List Nat} {i x : Nat} (h : l[i]? = some x) : (l.map uv)[i]? = some (.int .u64 (x : Int)) := by rw [List.getElem?_map, h]; rfl

def farB (x : Int) : Bool := !decide (OnC x)
theorem farB_on {x : Int} (h : OnC x) : farB x = false := by unfold farB; rw [decide_eq_true h]; rfl
theorem farB_off {x : Int} (h : ¬ OnC x) : farB x = true := by unfold farB; rw [decide_eq_false h]; rfl
theorem far_calls {x : Int} {w : World} : Calls Try.prog 63 #[.int .i64 x] w fun e w' => e = .returned (.bool (farB x)) ∧ w = w' := by
  by_cases h1 : 1048576 < x
  · rw [farB_off (fun h => by unfold OnC at h; omega)]
    go_enter Try.func63, Try.ntmps63
    go_wp2_with fail
    go_ret
    exact ⟨rfl, rfl⟩
  by_cases h2 : x < -1048576
  · rw [farB_off (fun h => by unfold OnC at h; omega)]
    go_enter Try.func63, Try.ntmps63
    go_wp2_with fail
    go_ret
    exact ⟨rfl, rfl⟩
  rw [farB_on ⟨by omega, by omega⟩]
  go_enter Try.func63, Try.ntmps63
  go_wp2_with fail
  go_ret
  exact ⟨rfl, rfl⟩

theorem arr_cell {w : World} {b : Nat} {l : List Value} {T : TypeId} {F : List HP} (H : Sep w (HP.pt b l.toArray T :: F)) {i : Nat} {v : Value} (h : l[i]? = some v) : w.cell? ⟨b, i, none⟩ = some v := H.cell i (by simpa using h)
theorem arr_set {w : World} {b : Nat} {l : List Value} {T : TypeId} {F : List HP} (H : Sep w (HP.pt b l.toArray T :: F)) (i : Nat) (v : Value) : Sep (w.setCell ⟨b, i, none⟩ v) (HP.pt b (l.set i v).toArray T :: F) := by
  have h := H.set i v
  have e : l.toArray.setIfInBounds i v = (l.set i v).toArray := by simp
  rw [e] at h
  exact h
/-- The first k of A, and z behind them. -/
def fillTo (A : List Value) (z : Value) (k : Nat) : List Value := A.take k ++ List.replicate (A.length - k) z
theorem fillTo_zero (A : List Value) (z : Value) : fillTo A z 0 = List.replicate A.length z := by simp [fillTo]
theorem fillTo_all (A : List Value) (z : Value) : fillTo A z A.length = A := by simp [fillTo]
theorem fillTo_get {A : List Value} {z : Value} {k : Nat} (h : k < A.length) : (fillTo A z k)[k]? = some z := by
  unfold fillTo
  rw [List.getElem?_append_right (by rw [List.length_take]; omega), List.length_take, Nat.min_eq_left (by omega), Nat.sub_self, List.getElem?_replicate, if_pos (by omega)]
theorem fillTo_set {A : List Value} {z v : Value} {k : Nat} (h : A[k]? = some v) : (fillTo A z k).set k v = fillTo A z (k + 1) := by
  obtain ⟨hl, hv⟩ := List.getElem?_eq_some_iff.1 h
  unfold fillTo
  have hk : (A.take k).length = k := by rw [List.length_take]; omega
  rw [List.set_append_right _ _ (by omega), hk, Nat.sub_self, show A.length - k = (A.length - (k + 1)) + 1 by omega, List.replicate_succ, List.set_cons_zero, List.take_succ_eq_append_getElem hl, hv, List.append_assoc]
  rfl

set_option maxRecDepth 100000 in
set_option maxHeartbeats 4000000 in
theorem ron_calls {p : List Int} (hp : p.length = 3) {F : List HP} {w : World} (H : Sep w F) : Calls Try.prog 19 #[pv p] w fun e w' => e = .returned (.bool (decide (OnP p))) ∧ Sep w' F := by
  have H1 := H.alloc (p.map iv).toArray 23
  have HP3 := Lib.hid hp
  obtain ⟨bv, hb⟩ : ∃ bv, bv = decide (OnP p) := ⟨_, rfl⟩
  rw [← hb]
  have HBV := Lib.hid hb
  clear hp hb
  unfold pv
  go_enter Try.func19, Try.ntmps19
  go_wp2_with fail
  generalize w.heap.size = q at *
  generalize w.alloc (.cells (p.map iv).toArray 23) = w1 at *
  go_loopg [3] 3 (fun gk i wr => wr = w1 ∧ ∃ k : Nat, Hid (k ≤ 3 ∧ gk = 3 - k ∧ ∀ x ∈ p.take k, OnC x) ∧ i = .int .i64 (k : Int))
  case atStart => exact ⟨rfl, 0, Lib.hid ⟨by omega, rfl, by simp⟩, rfl⟩
  case round =>
    obtain ⟨rfl, k, hq, rfl⟩ := hrel
    obtain ⟨q1, q2, q3⟩ := hq.out
    have Q3 := Lib.hid q3
    clear hq q3
    by_cases hk : k < 3
    · have hkl : k < p.length := by rw [HP3.out]; exact hk
      have c0 : wr.cell? ⟨q, k, none⟩ = some (.int .i64 p[k]) := arr_cell H1 (iv_get hkl)
      have HM := Lib.hid (List.getElem_mem hkl)
      have HT := Lib.hid (List.take_succ_eq_append_getElem hkl)
      generalize p[k] = x at *
      have hki : (k : Int) < 3 := by omega
      by_cases h1 : 1048576 < x
      · have HE : Hid (bv = false) := Lib.hid (by rw [HBV.out]; exact decide_eq_false fun h => by have := h x HM.out; unfold OnC at this; omega)
        go_wp2_with fail
        go_ret
        exact ⟨by rw [HE.out]; rfl, H1.tail⟩
      by_cases h2 : x < -1048576
      · have HE : Hid (bv = false) := Lib.hid (by rw [HBV.out]; exact decide_eq_false fun h => by have := h x HM.out; unfold OnC at this; omega)
        go_wp2_with fail
        go_ret
        exact ⟨by rw [HE.out]; rfl, H1.tail⟩
      have HN : Hid (∀ y ∈ p.take (k + 1), OnC y) := Lib.hid (by
        rw [HT.out]
        intro y hy
        rcases List.mem_append.1 hy with hy | hy
        · exact Q3.out y hy
        · have : y = x := by simpa using hy
          exact ⟨by omega, by omega⟩)
      go_wp2_with fail
      go_roundg (3 - (k + 1))
      case rel => exact ⟨rfl, k + 1, Lib.hid ⟨by omega, rfl, HN.out⟩, by go_num⟩
      case measure => omega
    · obtain rfl : k = 3 := by omega
      have hall := Q3.out
      rw [List.take_of_length_le (by rw [HP3.out]; exact Nat.le_refl _)] at hall
      have HE : Hid (bv = true) := Lib.hid (by rw [HBV.out]; exact decide_eq_true hall)
      clear hall Q3
      go_wp2_with fail
      go_ret
      exact ⟨by rw [HE.out]; rfl, H1.tail⟩

theorem rzig29_calls {n : Int} (h0 : -9223372036854775808 < n) (h1 : n ≤ 9223372036854775807) {w : World} :
    Calls Try.prog 66 #[.int .i64 n] w fun e w' => e = .returned (.int .u64 (zigZ n)) ∧ w = w' := by
  by_cases h : n < 0
  · have HZ := Lib.hid (show -n * 2 - 1 = zigZ n by unfold zigZ; rw [if_neg (by omega)]; omega)
    go_enter Try.func66, Try.ntmps66
    go_wp2_with fail
    go_ret
    exact ⟨by rw [← HZ.out]; go_num, rfl⟩
  · have HZ := Lib.hid (show n * 2 = zigZ n by unfold zigZ; rw [if_pos (by omega)]; omega)
    go_enter Try.func66, Try.ntmps66
    go_wp2_with fail
    go_ret
    exact ⟨by rw [← HZ.out]; go_num, rfl⟩
theorem rzag29_calls {u : Int} (h0 : 0 ≤ u) (h1 : u ≤ 4194304) {w : World} :
    Calls Try.prog 65 #[.int .u64 u] w fun e w' => e = .returned (.int .i64 (zagZ u)) ∧ w = w' := by
  by_cases h : u % 2 = 1
  · have HZ := Lib.hid (show -(u / 2) - 1 = zagZ u by unfold zagZ; rw [if_neg (by omega)])
    have h' : (u % 2 == 1) = true := by rw [beq_iff_eq]; exact h
    clear h
    go_enter Try.func65, Try.ntmps65
    go_wp2_with fail
    go_ret
    exact ⟨by rw [← HZ.out]; go_num, rfl⟩
  · have HZ := Lib.hid (show u / 2 = zagZ u by unfold zagZ; rw [if_pos (by omega)])
    have h' : (u % 2 == 1) = false := by rw [beq_eq_false_iff_ne]; exact h
    clear h
    go_enter Try.func65, Try.ntmps65
    go_wp2_with fail
    go_ret
    exact ⟨by rw [← HZ.out]; go_num, rfl⟩

end Go.Proofs.Ytbhpcpcpccmacaa
