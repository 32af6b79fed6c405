/- table: Clone, Find. table: Find. Reference 03: Total, Check, Low, Count, Find, Bump. Reference 03: Find, Bump; the law's 'same'. Reference 03: Bump; a nil table; the document's example. Chapter 03: what all laws need. -/
import Derived.Test.YtbhpcpcpccmacaaGE
import Derived.Test.YtbhpcpcpccmacaaGA
import Derived.Shelf.Abstract

namespace Go.Proofs.Ytbhpcpcpccmacaa
open Go.RowKit

/-- A predicate that is handed over as a function value: what it says of each number, and that the frame stays. -/
def Says (k : Nat) (x y : Value) (R : List HP) (n : Nat) (p : Nat → Bool) : Prop :=
  ∀ (i : Nat) (w : World), i < n → Sep w R → Calls Try.prog k #[.int .i64 (i : Int), x, y] w fun e w' => e = .returned (.bool (p i)) ∧ Sep w' R

set_option maxRecDepth 100000 in
set_option maxHeartbeats 1000000 in
theorem search_calls {k m n : Nat} {x y : Value} {R : List HP} {p : Nat → Bool} {w : World} (hen : ∀ args w, (callFunc k args).run Try.prog w = .ok (.enter k args) w) (hn : n ≤ 1099511627776) (hm : m ≤ n) (hlo : ∀ i, i < m → p i = false) (hhi : ∀ i, m ≤ i → i < n → p i = true) (hs : Says k x y R n p) (H : Sep w R) :
    Calls Try.prog 102 #[.int .i64 (n : Int), .func (.func k) #[] #[x, y]] w fun e w' => e = .returned (.int .i64 (m : Int)) ∧ Sep w' R := by
  have HS := Lib.hid hs
  have HLO := Lib.hid hlo
  have HHI := Lib.hid hhi
  clear hs hlo hhi
  go_enter Try.func102, Try.ntmps102
  go_wp2_with fail
  go_loopg [5, 6, 7] n (fun gk i j _ wr => ∃ a b : Nat, Hid (a ≤ m ∧ m ≤ b ∧ b ≤ n ∧ gk = b - a) ∧ i = .int .i64 (a : Int) ∧ j = .int .i64 (b : Int) ∧ Sep wr R)
  case atStart => exact ⟨0, n, Lib.hid ⟨by omega, hm, by omega, rfl⟩, rfl, rfl, H⟩
  case round =>
    obtain ⟨a, b, hq, rfl, rfl, Hr⟩ := hrel
    obtain ⟨q1, q2, q3, q4⟩ := hq.out
    clear hq
    by_cases c : a < b
    · go_wp2_with fail
      have hi : ((a : Int) + (b : Int)) / 2 = ((a + b) / 2 : Nat) := by omega
      have hlt : (a + b) / 2 < n := by omega
      rw [hi]
      clear hi
      refine (HS.out _ _ hlt Hr).mono ?_
      rintro e w2 ⟨rfl, H2⟩
      clear Hr
      by_cases cm : (a + b) / 2 < m
      · rw [HLO.out _ cm]
        go_wp2_with fail
        go_roundg (b - ((a + b) / 2 + 1))
        case rel => exact ⟨(a + b) / 2 + 1, b, Lib.hid ⟨by omega, by omega, by omega, rfl⟩, by go_num, rfl, H2⟩
        case measure => omega
      · rw [HHI.out _ (by omega) hlt]
        go_wp2_with fail
        go_roundg ((a + b) / 2 - a)
        case rel => exact ⟨a, (a + b) / 2, Lib.hid ⟨by omega, by omega, by omega, rfl⟩, rfl, by go_num, H2⟩
        case measure => omega
    · obtain rfl : a = m := by omega
      go_wp2_with fail
      go_ret
      exact ⟨rfl, Hr⟩

end Go.Proofs.Ytbhpcpcpccmacaa

namespace Go.Proofs.Ytbhpcpcpccmacaa
open Go.RowKit

/-- The ends, up to a place. -/
def endsTo (cs : List Int) (t : Nat) : List Int := (List.range cs.length).map fun j => if j < t then isum (cs.take (j + 1)) else 0
theorem endsTo_length (cs : List Int) (t : Nat) : (endsTo cs t).length = cs.length := by simp [endsTo]
theorem endsTo_zero (cs : List Int) : endsTo cs 0 = List.replicate cs.length 0 := by
  unfold endsTo
  apply List.ext_getElem?
  intro i
  simp only [List.getElem?_map, List.getElem?_replicate]
  by_cases h : i < cs.length
  · simp [h]
  · simp [h]
theorem endsTo_set (cs : List Int) (t : Nat) : (endsTo cs t).set t (isum (cs.take (t + 1))) = endsTo cs (t + 1) := by
  apply List.ext_getElem
  · simp [endsTo]
  intro i h1 h2
  simp only [endsTo, List.getElem_set, List.getElem_map, List.getElem_range]
  by_cases hi : t = i
  · subst hi; simp
  · rw [if_neg hi]
    by_cases hlt : i < t
    · rw [if_pos hlt, if_pos (by omega)]
    · rw [if_neg hlt, if_neg (by omega)]
theorem endsTo_get {cs : List Int} {i : Nat} (h : i < cs.length) : (endsTo cs cs.length)[i]? = some (isum (cs.take (i + 1))) := by
  unfold endsTo
  simp [h]

set_option maxRecDepth 100000 in
set_option maxHeartbeats 1000000 in
theorem find1_says {be bx g cap n : Nat} {x : Int} {es : List Int} {R : List HP} (hn : es.length = n) :
    Says 103 (.pointer (some ⟨be, 0, none⟩)) (.pointer (some ⟨bx, 0, none⟩))
      (HP.pt be #[.slice (some ⟨g, 0, none⟩) n cap] 40 :: HP.pt bx #[.int .i64 x] 3 :: HP.row 3 1 (.slice (some ⟨g, 0, none⟩) n cap) n (es.map iv) :: R) n (fun i => decide (x < es.getD i 0)) := by
  intro i w hi H
  have c0 : w.cell? ⟨be, 0, none⟩ = some (.slice (some ⟨g, 0, none⟩) n cap) := H.cell 0 rfl
  have c1 : w.cell? ⟨bx, 0, none⟩ = some (.int .i64 x) := H.tail.cell 0 rfl
  have c2 : w.cell? ⟨g, i, none⟩ = some (.int .i64 es[i]) := H.tail.tail.row_cell i (iv_get (by omega))
  have hg : es.getD i 0 = es[i] := getD_get (by omega)
  show Calls Try.prog 103 #[.int .i64 (i : Int), _, _] w fun e w' => e = .returned (.bool (decide (x < es.getD i 0))) ∧ Sep w' _
  rw [hg]
  clear hg
  generalize es[i] = y at c2 ⊢
  subst hn
  go_enter Try.func103, Try.ntmps103
  go_wp2_with fail
  (refine wp_region_quiet_lit (by kernel_rfl) (by kernel_rfl) ?_; (repeat (first | go_big_quiet_skip | (go_big_quiet_want; go_big_quiet_op; (try go_bits); first | go_big_quiet_on | go_big_quiet_call ((fail))))); refine wpQuiet_nil ?_; intro _ hw'; obtain ⟨nq, hw''⟩ := hw'; subst hw'')
  go_wp2_with fail
  go_ret
  exact ⟨rfl, H.drewN nq⟩

/-- What Find gives. -/
def findI (cs : List Int) (x : Int) : Nat := if 0 ≤ x ∧ x < isum cs then findOf cs x else 0

set_option maxRecDepth 100000 in
set_option maxHeartbeats 1000000 in
theorem find_calls {b : Nat} {cs : List Int} {x : Int} {R : List HP} {w : World} (hv : Vt cs) (H : Sep w (Tbl b cs :: R)) :
    Calls Try.prog 101 #[.pointer (some ⟨b, 0, none⟩), .int .i64 x] w fun e w' => e = .returned (.tuple #[.int .i64 (findI cs x : Int), .bool (decide (0 ≤ x ∧ x < isum cs))]) ∧ Sep w' (Tbl b cs :: R) := by
  have H1 := H.alloc #[.int .i64 x] 3
  by_cases h0 : 0 ≤ x ∧ x < isum cs
  · have hd : decide (0 ≤ x ∧ x < isum cs) = true := decide_eq_true h0
    have hf : findI cs x = findOf cs x := by unfold findI; rw [if_pos h0]
    rw [hd, hf]
    have d1 : decide (x < 0) = false := decide_eq_false (by omega)
    have d2 : decide (isum cs ≤ x) = false := decide_eq_false (by omega)
    have hmf : ∀ (fn : Fn) (first cap : Array Value) (w : World), (Instr.makeFunc fn first cap).run Try.prog w = .ok (.func fn first cap) w := fun _ _ _ _ => rfl
    have hen : ∀ args w, (callFunc 103 args).run Try.prog w = .ok (.enter 103 args) w := enters_of Try.func103 (by kernel_rfl) rfl
    have hl := hv.2.1
    have hl1 := hv.1
    have HV := Lib.hid hv
    have HLO : Hid (∀ i, i < findOf cs x → (fun i => decide (x < (endsTo cs cs.length).getD i 0)) i = false) := Lib.hid fun i hi => by
      have hlt := findOf_lt h0.2 h0.1
      have := findOf_spec (x := x) hv.2.2.1 (show i < cs.length by omega)
      show decide (x < (endsTo cs cs.length).getD i 0) = false
      rw [List.getD, endsTo_get (by omega)]
      simp only [Option.getD_some]
      exact decide_eq_false (fun hc => by have := this.1 hc; omega)
    have HHI : Hid (∀ i, findOf cs x ≤ i → i < cs.length → (fun i => decide (x < (endsTo cs cs.length).getD i 0)) i = true) := Lib.hid fun i hi1 hi2 => by
      have := findOf_spec (x := x) hv.2.2.1 hi2
      show decide (x < (endsTo cs cs.length).getD i 0) = true
      rw [List.getD, endsTo_get hi2]
      simp only [Option.getD_some]
      exact decide_eq_true (this.2 hi1)
    have HM := Lib.hid (Nat.le_of_lt (findOf_lt h0.2 h0.1))
    have HEN := Lib.hid hen
    have HL : Hid (∀ t, 0 ≤ isum (cs.take t) ∧ isum (cs.take t) ≤ 65536) := Lib.hid fun t => ⟨isum_take_nonneg hv.2.2.1 t, by have := isum_take_le hv.2.2.1 t; have := hv.2.2.2; omega⟩
    clear hen hv
    clear hf hd
    obtain ⟨sv, H2⟩ := Tbl.open H1.swap
    obtain ⟨g, cap, cur, rfl, -⟩ := H2.tail.row_open (by omega)
    have e0 : (w.alloc (.cells #[.int .i64 x] 3)).cell? ⟨w.heap.size, 0, none⟩ = some (.int .i64 x) := H1.cell 0 rfl
    have H1' := Lib.hid H1
    go_enter Try.func101, Try.ntmps101
    go_wp2_with fail
    (refine wp_region_quiet_lit (by kernel_rfl) (by kernel_rfl) ?_; (repeat (first | go_big_quiet_skip | (go_big_quiet_want; go_big_quiet_op; (try go_bits); first | go_big_quiet_on | go_big_quiet_call ((go_at_call 96; exact (total_calls (H1.swap.drewN _)).mono fun _ _ h => ⟨h.1, _, h.2.symm⟩))))); refine wpQuiet_nil ?_; intro _ hw'; obtain ⟨nq, hw''⟩ := hw'; subst hw'')
    have H3 := (H2.drewN nq).rot3
    generalize (w.alloc (.cells #[.int .i64 x] 3)).drewN nq = w1 at H3 ⊢
    generalize w.heap.size = bx at H3 ⊢
    clear e0 H1' H1 H2
    have c0 : w1.cell? ⟨b, 0, none⟩ = some (.slice (some ⟨g, 0, none⟩) cs.length cap) := H3.tail.cell 0 rfl
    go_wp2_with ((at_make; go_must (refine wpList_make_sep rfl _ _ 40 rfl 3 (.int .i64 0) 8 Try.underlying40 info_iv rfl H3 .i64 .i64 cs.length cs.length cs.length rfl rfl rfl rfl (by omega) (by unfold maxLen; omega) ?_); intro ge w2 H4; have H5 := H4.alloc #[.slice (some ⟨ge, 0, none⟩) cs.length cs.length] 40; have c5 : (w2.alloc (.cells #[.slice (some ⟨ge, 0, none⟩) cs.length cs.length] 40)).cell? ⟨b, 0, none⟩ = some (.slice (some ⟨g, 0, none⟩) cs.length cap) := H5.tail.tail.tail.cell 0 rfl))
    clear c5 c0 H3
    generalize w2.alloc (.cells #[.slice (some ⟨ge, 0, none⟩) cs.length cs.length] 40) = w3 at H5 ⊢
    generalize w2.heap.size = be at H5 ⊢
    clear H4
    have hz : List.replicate cs.length (Value.int .i64 0) = (endsTo cs 0).map iv := by rw [endsTo_zero, List.map_replicate]; rfl
    rw [hz] at H5
    clear hz
    go_loopg [7, 8, 9, 29] cs.length (fun gk n _ _ i wr => ∃ t : Nat, Hid (t ≤ cs.length ∧ gk = cs.length - t) ∧ n = .int .i64 (isum (cs.take t)) ∧ i = .int .i64 (t : Int) ∧
      Sep wr (HP.pt be #[.slice (some ⟨ge, 0, none⟩) cs.length cs.length] 40 :: HP.row 3 1 (.slice (some ⟨ge, 0, none⟩) cs.length cs.length) cs.length ((endsTo cs t).map iv) :: HP.pt bx #[.int .i64 x] 3 :: HP.pt b #[.slice (some ⟨g, 0, none⟩) cs.length cap, .int .i64 (isum cs)] 110 :: HP.row 3 1 (.slice (some ⟨g, 0, none⟩) cs.length cap) cs.length (cs.map iv) :: R))
    case atStart => exact ⟨0, Lib.hid ⟨by omega, rfl⟩, rfl, rfl, H5⟩
    case round =>
      clear H5
      obtain ⟨t, hq, rfl, rfl, Hr⟩ := hrel
      obtain ⟨q1, q2⟩ := hq.out
      clear hq
      have e0 : wr.cell? ⟨be, 0, none⟩ = some (.slice (some ⟨ge, 0, none⟩) cs.length cs.length) := Hr.cell 0 rfl
      by_cases c : t < cs.length
      · have r0 : wr.cell? ⟨g, t, none⟩ = some (.int .i64 cs[t]) := Hr.tail.tail.tail.tail.row_cell t (iv_get c)
        obtain ⟨u, hu⟩ : ∃ u, ((endsTo cs t).map iv)[t]? = some u := ⟨_, List.getElem?_eq_getElem (by rw [List.length_map, endsTo_length]; exact c)⟩
        have e1 : wr.cell? ⟨ge, t, none⟩ = some u := Hr.tail.row_cell t hu
        have f0 := Hr.tail.row_froz t
        clear hu
        have hs := isum_take_succ c
        have b1 := HL.out t
        have b2 := HL.out (t + 1)
        have hmap : ((endsTo cs t).map iv).set t (.int .i64 (isum (cs.take (t + 1)))) = (endsTo cs (t + 1)).map iv := by rw [← endsTo_set, List.map_set]; rfl
        have H6 := (Hr.swap.row_set t (.int .i64 (isum (cs.take (t + 1))))).swap
        rw [hmap] at H6
        rw [hs] at H6 b2
        have HS := Lib.hid hs
        clear hs hmap
        generalize isum (cs.take t) = X at *
        generalize cs[t] = y at r0 H6 b2 HS
        go_wp2_with fail
        go_roundg (cs.length - (t + 1))
        case rel => exact ⟨t + 1, Lib.hid ⟨by omega, rfl⟩, by rw [HS.out], by go_num, H6⟩
        case measure => omega
      · obtain rfl : t = cs.length := by omega
        have H7 := Hr.rot3.swap
        clear Hr
        go_wp2_with fail
        refine (search_calls HEN.out (by omega) HM.out HLO.out HHI.out (find1_says (endsTo_length cs cs.length)) H7).mono ?_
        rintro e w4 ⟨rfl, H8⟩
        go_wp2_with fail
        go_ret2
        exact ⟨rfl, Tbl.shut H8.tail.tail.tail⟩
  · have hd : decide (0 ≤ x ∧ x < isum cs) = false := decide_eq_false h0
    have hf : findI cs x = 0 := by unfold findI; rw [if_neg h0]
    rw [hd, hf]
    clear hd hf
    have e0 : (w.alloc (.cells #[.int .i64 x] 3)).cell? ⟨w.heap.size, 0, none⟩ = some (.int .i64 x) := H1.cell 0 rfl
    by_cases hx : x < 0
    · have d1 : decide (x < 0) = true := decide_eq_true hx
      go_enter Try.func101, Try.ntmps101
      go_wp2_with fail
      (refine wp_region_quiet_lit (by kernel_rfl) (by kernel_rfl) ?_; (repeat (first | go_big_quiet_skip | (go_big_quiet_want; go_big_quiet_op; (try go_bits); first | go_big_quiet_on | go_big_quiet_call ((fail))))); refine wpQuiet_nil ?_; intro _ hw'; obtain ⟨nq, hw''⟩ := hw'; subst hw'')
      have H3 := H1.tail.drewN nq
      go_wp2_with fail
      go_ret2
      exact ⟨rfl, H3⟩
    · have d1 : decide (x < 0) = false := decide_eq_false hx
      have d2 : decide (isum cs ≤ x) = true := decide_eq_true (by omega)
      go_enter Try.func101, Try.ntmps101
      go_wp2_with fail
      (refine wp_region_quiet_lit (by kernel_rfl) (by kernel_rfl) ?_; (repeat (first | go_big_quiet_skip | (go_big_quiet_want; go_big_quiet_op; (try go_bits); first | go_big_quiet_on | go_big_quiet_call ((go_at_call 96; exact (total_calls (H1.swap.drewN _)).mono fun _ _ h => ⟨h.1, _, h.2.symm⟩))))); refine wpQuiet_nil ?_; intro _ hw'; obtain ⟨nq, hw''⟩ := hw'; subst hw'')
      have H3 := H1.tail.drewN nq
      go_wp2_with fail
      go_ret2
      exact ⟨rfl, H3⟩

end Go.Proofs.Ytbhpcpcpccmacaa

namespace Go.Proofs.Ytbhpcpcpccmacaa
open Go.RowKit

theorem RdS.take {w : World} {a : Addr} {n cap k : Nat} {xs : List Value} (h : RdS w (.slice (some a) n cap) n 1 xs) (hk : k ≤ n) : RdS w (.slice (some a) k cap) k 1 (xs.take k) := by
  have hl := h.1
  refine ⟨by rw [List.length_take]; omega, .inr ⟨a, cap, rfl, fun j u hu => ?_⟩⟩
  rcases h.2 with ⟨h1, _⟩ | ⟨ad, c, he, hh⟩
  · cases h1
  · simp only [Value.slice.injEq, Option.some.injEq, true_and] at he
    obtain ⟨rfl, rfl⟩ := he
    rw [List.getElem?_take] at hu
    split at hu
    · exact hh j u hu
    · cases hu

/-- A slice is no longer than its room. -/
def Fits (v : Value) : Prop := ∀ a m c, v = .slice a m c → m ≤ c
theorem Sep.row_fits {w : World} {e : TypeId} {size : Nat} {v : Value} {n : Nat} {xs : List Value} {L : List HP} (h : Sep w (HP.row e size v n xs :: L)) : Fits v := by
  intro a m c hv
  by_cases hn : n = 0
  · obtain ⟨a', cap, he⟩ := h.row_form
    rw [he] at hv
    simp only [Value.slice.injEq] at hv
    omega
  · obtain ⟨g, cap, cur, he, h1, _⟩ := h.row_open hn
    rw [he] at hv
    simp only [Value.slice.injEq] at hv
    omega
theorem IsRow.fits {k : IntKind} {w : World} {a : Option Addr} {len cap : Nat} {zs : List Int} (h : IsRow k w a len cap zs) : Fits (.slice a len cap) := by
  intro a' m c hv
  simp only [Value.slice.injEq] at hv
  rcases h with ⟨rfl, rfl, rfl, rfl⟩ | ⟨x, rfl, hl, _⟩ <;> omega

end Go.Proofs.Ytbhpcpcpccmacaa

namespace Go.Proofs.Ytbhpcpcpccmacaa
open Go.RowKit

end Go.Proofs.Ytbhpcpcpccmacaa

namespace Go.Proofs.Ytbhpcpcpccmacaa
open Go.RowKit

end Go.Proofs.Ytbhpcpcpccmacaa

namespace Go.Proofs.Ytbhpcpcpccmacaa
open Go.RowKit

theorem IsRow.ints {w : World} {a : Option Addr} {len cap : Nat} {zs : List Int} (h : IsRow .i64 w a len cap zs) : ∃ xs : List Int, xs.length = len ∧ (∀ x ∈ xs, -9223372036854775808 ≤ x ∧ x ≤ 9223372036854775807) ∧ RdS w (.slice a len cap) len 1 (xs.map iv) ∧ Fits (.slice a len cap) :=
  ⟨zs.take len, h.len, fun x hx => wf_i64 (h.wf x hx), h.rd, h.fits⟩

/-- The old memory behind whatever else. -/
theorem Sep.below_of {w : World} {S : List HP} {B : Nat} {w0 : World} (h : Sep w (S ++ [HP.old B w0])) : Below B w0 w := (Sep.drop_left h).below

end Go.Proofs.Ytbhpcpcpccmacaa
