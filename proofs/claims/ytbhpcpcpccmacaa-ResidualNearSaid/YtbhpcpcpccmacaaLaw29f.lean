/- Law 29: ResidualNear. -/
import Derived.Test.YtbhpcpcpccmacaaLaw29c
namespace Go.Proofs.Ytbhpcpcpccmacaa
open Go.RowKit Go.Shelf

theorem half_mono {a b : Nat} (hb : b ≤ 4294967296) (h : a ≤ b) : halfN a ≤ halfN b := by
  have h1 := halfN_low (n := a) (by omega)
  have h2 := halfN_lt hb
  apply Classical.byContradiction
  intro hn
  have h3 : 2 ^ (halfN b + 1) ≤ 2 ^ halfN a := Nat.pow_le_pow_right (by decide) (by omega)
  omega
theorem size_mono {a b : Nat} (hb : b ≤ 4294967296) (h : a ≤ b) : sizeN a ≤ sizeN b := by
  have := half_mono hb h
  unfold sizeN
  omega
theorem size_zero : sizeN 0 = 1 := by decide +kernel
theorem size_pos (n : Nat) : 1 ≤ sizeN n := by unfold sizeN; omega
theorem cost_three {a b c : Nat} (ha : a ≤ 4194304) (hb : b ≤ 4194304) (hc : c ≤ 4194304) : costN [a, b, c] = sizeN a + sizeN b + sizeN c := by
  have h1 := costN_snoc [a, b] c
  have h2 := costN_snoc [a] b
  have h3 := costN_snoc [] a
  have h4 : costN [] = 0 := rfl
  rw [if_pos hc] at h1
  rw [if_pos hb] at h2
  rw [if_pos ha, h4] at h3
  show costN ([a, b] ++ [c]) = _
  rw [h1]
  show costN ([a] ++ [b]) + _ = _
  rw [h2]
  show costN ([] ++ [a]) + _ + _ = _
  rw [h3]
  omega
theorem ofL_self {p : List Int} (hp : p.length = 3) : ofL p p = [0, 0, 0] := by
  obtain ⟨x0, x1, x2, rfl⟩ := list_three hp
  show [(zigZ (x0 - x0)).toNat, (zigZ (x1 - x1)).toNat, (zigZ (x2 - x2)).toNat] = _
  rw [Int.sub_self, Int.sub_self, Int.sub_self]
  rfl

set_option maxRecDepth 100000 in
set_option maxHeartbeats 8000000 in
theorem law_ResidualNear (v0 : Value) (p : List Int) {w : World} (hp : PntArg w v0 p) (v1 : Value) (q : List Int) (hq : PntArg w v1 q) (u : Int) (wu : (Lit.int .u32 u).wf = true) (v : Int) (wv : (Lit.int .u32 v).wf = true) :
    Calls Try.prog 3 #[v0, v1, .int .u32 u, .int .u32 v] w fun e w' => e = .returned (.bool true) ∧ Below w.heap.size w w' := by
  obtain ⟨rfl, hp3⟩ := hp
  obtain ⟨rfl, hq3⟩ := hq
  obtain ⟨u0, u1⟩ := wf_u32 wu
  obtain ⟨v0, v1⟩ := wf_u32 wv
  clear wu wv
  obtain ⟨a, ha⟩ : ∃ a : Nat, u % 4194305 = (a : Int) := ⟨(u % 4194305).toNat, by omega⟩
  obtain ⟨b, hb⟩ : ∃ b : Nat, v % 4194305 = (b : Int) := ⟨(v % 4194305).toNat, by omega⟩
  have ha2 : u.tmod 4194305 = (a : Int) := by rw [Int.tmod_eq_emod_of_nonneg u0]; exact ha
  have hb2 : v.tmod 4194305 = (b : Int) := by rw [Int.tmod_eq_emod_of_nonneg v0]; exact hb
  have ha4 : a ≤ 4194304 := by omega
  have hb4 : b ≤ 4194304 := by omega
  have HONP := Lib.hid fun (G : List HP) (w' : World) (hs : Sep w' G) => ron_calls hp3 hs
  have HONQ := Lib.hid fun (G : List HP) (w' : World) (hs : Sep w' G) => ron_calls hq3 hs
  have HOFP : Hid (OnP p → ∀ (G : List HP) (w' : World), Sep w' G → Calls Try.prog 21 #[pv p, pv p] w' fun e w2 => e = .returned (rv [0, 0, 0]) ∧ Sep w2 G) := Lib.hid fun h1 G w' hs => by
    have := pof_calls hp3 hp3 h1 h1 hs
    rw [ofL_self hp3] at this
    exact this
  have HOF : Hid (OnP p → OnP q → ∀ (G : List HP) (w' : World), Sep w' G → Calls Try.prog 21 #[pv p, pv q] w' fun e w2 => e = .returned (rv (ofL p q)) ∧ Sep w2 G) := Lib.hid fun h1 h2 G w' hs => pof_calls hp3 hq3 h1 h2 hs
  have HFINE := Lib.hid fun (h1 : OnP p) (h2 : OnP q) => of_fine hp3 hq3 h1 h2
  obtain ⟨n0, n1, n2, hn⟩ := list_three (ofL_length hp3 hq3)
  rw [hn] at HOF HFINE
  clear hn
  obtain ⟨x0, x1, x2, rfl⟩ := list_three hp3
  obtain ⟨y0, y1, y2, rfl⟩ := list_three hq3
  clear hp3 hq3
  have H := Sep.start w
  generalize hB : HP.old w.heap.size w = O at H
  have HB := Lib.hid hB; clear hB
  have H1 := H.alloc #[.int .i64 x0, .int .i64 x1, .int .i64 x2] 23
  have H2 := H1.alloc #[.int .i64 y0, .int .i64 y1, .int .i64 y2] 23
  simp only [World.size_alloc] at H2
  clear H1 H
  show Calls Try.prog 3 #[.agg #[.int .i64 x0, .int .i64 x1, .int .i64 x2], .agg #[.int .i64 y0, .int .i64 y1, .int .i64 y2], .int .u32 u, .int .u32 v] w _
  go_enter Try.func3, Try.ntmps3
  go_wp2_with fail
  generalize w.heap.size + 1 = q4 at *
  generalize (w.alloc _).alloc _ = w3 at *
  refine (awake29 H2).mono ?_
  rintro e w4 ⟨rfl, H4⟩
  clear H2
  have c0 := H4.tail.cell 0 rfl
  have c1 := H4.tail.cell 1 rfl
  have c2 := H4.tail.cell 2 rfl
  have PC : Calls Try.prog 19 #[.agg #[.int .i64 x0, .int .i64 x1, .int .i64 x2]] w4 _ := HONP.out _ _ H4
  go_wp2_with fail
  refine PC.mono ?_
  rintro _ w5 ⟨rfl, H5⟩
  clear PC H4 c0 c1 c2
  by_cases op : OnP [x0, x1, x2]
  rotate_left
  · rw [decide_eq_false op]
    clear op
    go_wp2_with fail
    refine (awake29 H5).mono ?_
    rintro e w6 ⟨rfl, H6⟩
    go_wp2_with fail
    go_ret
    subst HB
    exact ⟨rfl, H6.tail.tail.below⟩
  rw [decide_eq_true op]
  have d0 := H5.cell 0 rfl
  have d1 := H5.cell 1 rfl
  have d2 := H5.cell 2 rfl
  have QC : Calls Try.prog 19 #[.agg #[.int .i64 y0, .int .i64 y1, .int .i64 y2]] w5 _ := HONQ.out _ _ H5
  have HOP := Lib.hid op
  clear op
  go_wp2_with fail
  refine QC.mono ?_
  rintro _ w6 ⟨rfl, H6⟩
  clear QC H5 d0 d1 d2
  by_cases oq : OnP [y0, y1, y2]
  rotate_left
  · rw [decide_eq_false oq]
    clear oq
    go_wp2_with fail
    refine (awake29 H6).mono ?_
    rintro e w7 ⟨rfl, H7⟩
    go_wp2_with fail
    go_ret
    subst HB
    exact ⟨rfl, H7.tail.tail.below⟩
  rw [decide_eq_true oq]
  have HOQ := Lib.hid oq
  clear oq
  have COST : Hid (∀ (w' : World) (G : List HP) (g m : Nat), Sep w' (HP.pt g #[.int .u64 (m : Int), .int .u64 0, .int .u64 0] 29 :: G) → m ≤ 4194304 → Calls Try.prog 20 #[.slice (some ⟨g, 0, none⟩) 1 1] w' fun e w2 => e = .returned (.int .i64 ((sizeN m + 2 : Nat) : Int)) ∧ Sep w2 (HP.pt g #[.int .u64 (m : Int), .int .u64 0, .int .u64 0] 29 :: G)) := Lib.hid fun w' G g m h hm => by
    have := cost_calls (v := .slice (some ⟨g, 0, none⟩) 1 1) (n := 1) (xs := [m, 0, 0]) (by decide) (by exact fun w' h => rd_three h) h
    rw [cost_three hm (by decide) (by decide), size_zero] at this
    exact this
  obtain ⟨lo, hlo⟩ : ∃ lo : Nat, lo = min a b := ⟨_, rfl⟩
  obtain ⟨hi, hhi⟩ : ∃ hi : Nat, hi = max a b := ⟨_, rfl⟩
  have hmin : min (a : Int) (b : Int) = (lo : Int) := by omega
  have hmax : max (a : Int) (b : Int) = (hi : Int) := by omega
  have hlo4 : lo ≤ 4194304 := by omega
  have hhi4 : hi ≤ 4194304 := by omega
  have hlh : sizeN lo ≤ sizeN hi := size_mono (by omega) (by omega)
  have hsb := size_fine hhi4
  have hlei : ((sizeN lo + 2 : Nat) : Int) ≤ ((sizeN hi + 2 : Nat) : Int) := by omega
  have hC0 := COST.out
  clear hC0 hlo hhi
  have H7 := H6.alloc #[.int .u64 (lo : Int), .int .u64 0, .int .u64 0] 29
  have C1 := COST.out _ _ _ _ H7 hlo4
  go_wp2_with fail
  generalize w6.alloc _ = w7 at *
  generalize w6.heap.size = g6 at *
  refine C1.mono ?_
  rintro _ w8 ⟨rfl, H8⟩
  clear C1 H7 H6
  have H9 := H8.alloc #[.int .u64 (hi : Int), .int .u64 0, .int .u64 0] 29
  have C2 := COST.out _ _ _ _ H9 hhi4
  generalize sizeN lo + 2 = sl at *
  generalize sizeN hi + 2 = sh at *
  go_wp2_with fail
  generalize w8.alloc _ = w9 at *
  generalize w8.heap.size = g8 at *
  refine C2.mono ?_
  rintro _ w10 ⟨rfl, H10⟩
  clear C2 H9 H8
  have c0 := H10.tail.tail.tail.cell 0 rfl
  have c1 := H10.tail.tail.tail.cell 1 rfl
  have c2 := H10.tail.tail.tail.cell 2 rfl
  have OC : Calls Try.prog 21 #[.agg #[.int .i64 x0, .int .i64 x1, .int .i64 x2], .agg #[.int .i64 x0, .int .i64 x1, .int .i64 x2]] w10 (fun e w2 => e = .returned (.agg #[.int .u64 0, .int .u64 0, .int .u64 0]) ∧ Sep w2 _) := HOFP.out HOP.out _ _ H10
  go_wp2_with fail
  refine OC.mono ?_
  rintro _ w11 ⟨rfl, H11⟩
  clear OC H10 c0 c1 c2
  have H12 := H11.alloc #[.int .u64 0, .int .u64 0, .int .u64 0] 29
  have hsz : (w11.alloc (.cells #[.int .u64 0, .int .u64 0, .int .u64 0] 29)).heap.size = w11.heap.size + 1 := World.size_alloc _ _
  have H13 := H12.alloc #[.int .u64 ((0 : Nat) : Int), .int .u64 0, .int .u64 0] 29
  rw [hsz] at H13
  have C3 := COST.out _ _ _ _ H13 (by decide)
  rw [size_zero] at C3
  have C3 : Calls Try.prog 20 #[.slice (some ⟨w11.heap.size + 1, 0, none⟩) 1 1] ((w11.alloc (.cells #[.int .u64 0, .int .u64 0, .int .u64 0] 29)).alloc (.cells #[.int .u64 0, .int .u64 0, .int .u64 0] 29)) (fun e w2 => e = .returned (.int .i64 3) ∧ Sep w2 _) := C3
  have eqa := fun w : World => eq_arr 0 0 0 0 0 0 w
  rw [decide_eq_true ⟨rfl, rfl, rfl⟩] at eqa
  have eqg := eqg_arr
  clear hsz
  go_wp2_with fail
  generalize (w11.alloc _).alloc _ = w13 at *
  generalize w11.heap.size + 1 = g13 at *
  generalize w11.heap.size = g12 at *
  refine C3.mono ?_
  rintro _ w14 ⟨rfl, H14⟩
  clear C3 H13 H12 H11
  have c0 := H14.tail.tail.tail.tail.tail.cell 0 rfl
  have c1 := H14.tail.tail.tail.tail.tail.cell 1 rfl
  have c2 := H14.tail.tail.tail.tail.tail.cell 2 rfl
  have d0 := H14.tail.tail.tail.tail.cell 0 rfl
  have d1 := H14.tail.tail.tail.tail.cell 1 rfl
  have d2 := H14.tail.tail.tail.tail.cell 2 rfl
  have OC : Calls Try.prog 21 #[.agg #[.int .i64 x0, .int .i64 x1, .int .i64 x2], .agg #[.int .i64 y0, .int .i64 y1, .int .i64 y2]] w14 (fun e w2 => e = .returned (.agg #[.int .u64 (n0 : Int), .int .u64 (n1 : Int), .int .u64 (n2 : Int)]) ∧ Sep w2 _) := HOF.out HOP.out HOQ.out _ _ H14
  go_wp2_with fail
  refine OC.mono ?_
  rintro _ w15 ⟨rfl, H15⟩
  clear OC H14 c0 c1 c2 d0 d1 d2
  have H16 := H15.alloc #[.int .u64 (n0 : Int), .int .u64 (n1 : Int), .int .u64 (n2 : Int)] 29
  have f0 := HFINE.out HOP.out HOQ.out n0 (by simp)
  have f1 := HFINE.out HOP.out HOQ.out n1 (by simp)
  have f2 := HFINE.out HOP.out HOQ.out n2 (by simp)
  have C4 := cost_calls (v := .slice (some ⟨w15.heap.size, 0, none⟩) 1 1) (n := 1) (xs := [n0, n1, n2]) (by decide) (by exact fun w' h => rd_three h) H16
  rw [cost_three f0 f1 f2] at C4
  have hcst : 3 ≤ sizeN n0 + sizeN n1 + sizeN n2 := by have := size_pos n0; have := size_pos n1; have := size_pos n2; omega
  generalize sizeN n0 + sizeN n1 + sizeN n2 = cst at *
  have hci : (3 : Int) ≤ (cst : Int) := by omega
  go_wp2_with fail
  generalize w15.alloc _ = w16 at *
  generalize w15.heap.size = g16 at *
  refine C4.mono ?_
  rintro _ w17 ⟨rfl, H17⟩
  go_wp2_with fail
  go_ret
  subst HB
  exact ⟨by simp, H17.tail.tail.tail.tail.tail.tail.tail.below⟩

end Go.Proofs.Ytbhpcpcpccmacaa
