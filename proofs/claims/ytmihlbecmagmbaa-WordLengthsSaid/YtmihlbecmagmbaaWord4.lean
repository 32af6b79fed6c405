/- slices.Backward over letters. -/
import Derived.Test.YtmihlbecmagmbaaWord3
import Derived.Shelf.Abstract
import Derived.Shelf.RegionOpen
import Derived.WalkKit
import Derived.OwnWalkIn
import Derived.TacticsInMore
import Derived.LoopNIn
import Derived.LoopIn
namespace Go.Proofs.Ytmihlbecmagmbaa
open Go.RowKit Go.Shelf

attribute [local go_sem] Oper.semAt_some

/-- The letters from behind. -/
def bk (l : List UInt8) (k : Nat) : UInt8 := l.getD (l.length - 1 - k) 0
theorem bk_eq {l : List UInt8} {k : Nat} (h : k < l.length) : bk l k = l[l.length - 1 - k]'(by omega) := by
  simp [bk, List.getD, List.getElem?_eq_getElem (show l.length - 1 - k < l.length by omega)]
/-- What yield is handed. -/
def bkArgs (l : List UInt8) (k : Nat) : Array Value := #[.int .i64 ((l.length : Int) - 1 - (k : Int)), .int .u8 ((bk l k).toNat : Int)]

set_option maxHeartbeats 1000000 in
theorem back_calls {a : Option Addr} {n cap : Nat} {w : World} :
    Calls Try.prog 41 #[.slice a n cap] w fun e w' => e = .returned (.func (.func 51) #[] #[.pointer (some ⟨w.heap.size, 0, none⟩)]) ∧ w' = w.alloc (.cells #[.slice a n cap] 40) := by
  go_enter Try.func41, Try.ntmps41
  go_wp2_with fail
  go_ret
  exact ⟨rfl, rfl⟩

set_option maxRecDepth 100000 in
set_option maxHeartbeats 2000000 in
theorem back1_in {bx g cap : Nat} {o : Obj} {l : List UInt8} {R0 : List HP} (hlen : l.length ≤ 1000000)
    (hread : ∀ W L' cap, Sep W (HP.obj g o :: L') → RdS W (.slice (some ⟨g, 0, none⟩) l.length cap) l.length 1 (l.map lv))
    (ll : Nat) (J : Nat → World → Prop) (Jx : World → Prop) (W : World)
    (hJ : ∀ k W1, J k W1 → ∃ L, Sep W1 (L ++ (HP.pt bx #[.slice (some ⟨g, 0, none⟩) l.length cap] 40 :: HP.obj g o :: R0)))
    (hY : ∀ k W1, J k W1 → k < l.length → YieldAt Fence.wide 7 Try.prog ll (bkArgs l k) W1 fun e W' => (e = .returned (.bool true) ∧ J (k + 1) W') ∨ (e = .returned (.bool false) ∧ Jx W'))
    (h0 : J 0 W) :
    CallsIn Fence.wide 8 Try.prog 51 (#[.func (.yield ll) #[] #[]] ++ #[.pointer (some ⟨bx, 0, none⟩)]) W fun e W' => (∃ v, e = .returned v) ∧ (J l.length W' ∨ Jx W') := by
  have hbox : ∀ k W1, J k W1 → W1.cell? ⟨bx, 0, none⟩ = some (.slice (some ⟨g, 0, none⟩) l.length cap) ∧ (k < l.length → W1.cell? ⟨g, l.length - 1 - k, none⟩ = some (.int .u8 ((bk l k).toNat : Int))) := by
    intro k W1 h
    obtain ⟨L, h⟩ := hJ k W1 h
    have h := Sep.drop_left h
    refine ⟨h.cell 0 rfl, fun hk => ?_⟩
    have h1 : l.length - 1 - k < l.length := by omega
    have := (hread W1 _ cap h.tail).cell (l.length - 1 - k) (by rw [List.getElem?_map, List.getElem?_eq_getElem h1]; rfl)
    rw [Nat.zero_add] at this
    rw [bk_eq hk]
    exact this
  have c0 := (hbox 0 W h0).1
  have HB := Lib.hid hbox
  have HY := Lib.hid hY
  clear hJ hbox hY hread
  show CallsIn Fence.wide 8 Try.prog 51 #[.func (.yield ll) #[] #[], .pointer (some ⟨bx, 0, none⟩)] W _
  refine callsIn_of_wp Try.func51 rfl trivial ?_ rfl
  simp only [Try.ntmps51, List.size_toArray, List.length_cons, List.length_nil, Nat.reduceAdd, Nat.reduceSub, Array.replicate_succ, Array.replicate_zero, List.push_toArray, List.append_toArray, List.nil_append, List.cons_append]
  gi_wp2
  gi_loopw [3] (fun i wr => ∃ k : Nat, k ≤ l.length ∧ i = .int .i64 ((l.length : Int) - 1 - (k : Int)) ∧ J k wr)
    (fun i _ => (intOf i + 1).toNat)
  case atStart => exact ⟨0, by omega, by go_num, h0⟩
  case round =>
    clear h0 c0
    obtain ⟨k, hk, rfl, hJs⟩ := hrel
    by_cases hlt : k < l.length
    · obtain ⟨fn, tmps, assign, body, hy, hR⟩ := HY.out k wr hJs hlt
      obtain ⟨c0, c1⟩ := HB.out k wr hJs
      have c1 := c1 hlt
      obtain ⟨t, ht⟩ : ∃ t : Nat, t = l.length - 1 - k := ⟨_, rfl⟩
      have hti : (l.length : Int) - 1 - (k : Int) = (t : Int) := by omega
      unfold bkArgs at hy
      rw [hti] at hy ⊢
      rw [← ht] at c1
      have hb1 : (t : Int) < (l.length : Int) := by omega
      have HT := Lib.hid hti
      clear ht hti
      gi_wp2
      refine hR.mono ?_
      rintro e W3 (⟨rfl, hJ3⟩ | ⟨rfl, hJx3⟩)
      · gi_wp2
        go_roundw
        case rel => exact ⟨k + 1, by omega, by rw [← HT.out]; go_num, hJ3⟩
        case measure => simp only [intOf]; have := HT.out; omega
      · gi_wp2
        refine bodyPost_ret (results_none rfl _ _ _) rfl ?_
        exact ⟨⟨_, rfl⟩, .inr hJx3⟩
    · obtain rfl : k = l.length := by omega
      have hti : (l.length : Int) - 1 - (l.length : Int) = -1 := by omega
      rw [hti]
      gi_wp2
      go_end0
      exact ⟨⟨_, rfl⟩, .inl hJs⟩

end Go.Proofs.Ytmihlbecmagmbaa
