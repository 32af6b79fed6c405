import Derived.Test.YtoejgfbeemokcaaText
import Derived.Test.YtoejgfbeemokcaaLaw1b
namespace Go.Proofs.Ytoejgfbeemokcaa
open Go.RowKit

set_option maxRecDepth 100000 in
set_option maxHeartbeats 1000000 in
theorem law_NumUnfixed (a : Option Addr) (len cap : Nat) (z : List Int) {w : World} (hrow : IsRow .u8 w a len cap z) (less : Int) (wl : (Lit.int .u8 less).wf = true) (b : Int) (wb : (Lit.int .i64 b).wf = true) :
    Calls Try.prog 15 #[.slice a len cap, .int .u8 less, .int .i64 b] w fun e w' => e = .returned (.bool true) ∧ Below w.heap.size w w' := by
  have hl0 := (wf_u8 wl).1
  have hl1 := (wf_u8 wl).2
  have hb0 := (wf_i64 wb).1
  have hb1 := (wf_i64 wb).2
  clear wl wb
  obtain ⟨bs, hbl, hb, hrd⟩ := hrow.bytes
  subst hbl
  clear hrow
  have H := Sep.start w
  have hreads : Reads [HP.old w.heap.size w] (.slice a bs.length cap) bs.length 1 (bs.map u8v) := Reads.old hrd
  have HRD := Lib.hid hreads
  clear hreads hrd
  have HBB := Lib.hid hb
  clear hb
  generalize hB : HP.old w.heap.size w = O at H HRD
  have HB := Lib.hid hB; clear hB
  by_cases hfew : 12 < bs.length
  · go_enter Try.func15, Try.ntmps15
    go_wp2_with fail
    refine (awake2 H).mono ?_
    rintro e w1 ⟨rfl, H1⟩
    go_wp2_with fail
    go_ret
    subst HB
    exact ⟨rfl, H1.below⟩
  have hlenI : (bs.length : Int) ≤ 12 := by omega
  have HTX := Lib.hid (fun (w1 : World) (h : RdS w1 (.slice a bs.length cap) bs.length 1 (bs.map u8v)) => text_calls hl0 hl1 HBB.out (by omega) h)
  have hTl : (textOf bs less).length ≤ 96 := by rw [textOf_length]; omega
  generalize textOf bs less = T at HTX hTl
  have HTL := Lib.hid hTl
  have hTI : (T.length : Int) ≤ 96 := by omega
  have hk63 := widthN_le hb1
  have HUF := Lib.hid (fun (q : Nat) (R : List HP) (w1 : World) (h : Sep w1 (Rdr q T 0 :: R)) => unfixed_all (b := b) (i := 0) hb1 (by omega) (by omega) h)
  have HRW := Lib.hid (fun (w1 : World) => rwidth_calls hb0 hb1 (w := w1))
  have hsz := bitStr_size T
  clear hTl hl0 hl1
  go_enter Try.func15, Try.ntmps15
  go_wp2_with fail
  refine (awake2 H).mono ?_
  rintro e w1 ⟨rfl, H1⟩
  clear H
  go_wp2_with fail
  refine (HTX.out _ (HRD.out _ H1)).mono ?_
  rintro e w2 ⟨rfl, rfl⟩
  go_wp2_with fail
  refine (reader_calls (by have := HTL.out; omega) H1).mono ?_
  rintro e w2 ⟨r, rfl, q, rfl, H2⟩
  clear H1
  go_wp2_with fail
  refine (HUF.out _ _ _ H2).mono ?_
  rintro e w3 ⟨rfl, H3⟩
  clear H2
  go_wp2_with fail
  refine (HRW.out _).mono ?_
  rintro e w4 ⟨rfl, rfl⟩
  clear HUF HRW HTX
  by_cases c1 : b < 1
  · have hu : unfixOf T 0 b = (0, 2, 0) := by unfold unfixOf; rw [if_pos c1]
    rw [hu] at H3 ⊢
    generalize widthN b = k
    clear hu hk63
    go_wp2_with fail
    go_ret
    subst HB
    exact ⟨rfl, H3.tail.below⟩
  have hb2 : 1 ≤ b := by omega
  by_cases c2 : T.length < widthN b
  · have hu : unfixOf T 0 b = (0, 4, 0) := by unfold unfixOf; rw [if_neg c1, if_pos (by omega)]
    rw [hu] at H3 ⊢
    generalize widthN b = k at *
    clear hu hk63 c1
    go_wp2_with fail
    go_ret
    subst HB
    exact ⟨rfl, H3.tail.below⟩
  have he : (bitStr T).extract 0 (widthN b) = bitStr (T.take (widthN b)) := by rw [bitStr_extract, List.drop_zero]
  have htl : (T.take (widthN b)).length ≤ 64 := by rw [List.length_take]; omega
  have HV := Lib.hid (fun (w1 : World) => value2_calls htl (w := w1))
  by_cases c3 : b ≤ (ofBits (T.take (widthN b)) : Int)
  · have hu : unfixOf T 0 b = (0, 3, 0 + widthN b) := by unfold unfixOf; rw [if_neg c1, if_neg (by omega), List.drop_zero, if_pos c3]
    rw [hu] at H3 ⊢
    clear hu
    generalize ofBits (T.take (widthN b)) = V at *
    generalize T.take (widthN b) = TT at *
    generalize widthN b = k at *
    have c2' : k ≤ T.length := by omega
    clear c1 c2 htl
    go_wp2_with fail
    refine (HV.out _).mono ?_
    rintro e w4 ⟨rfl, rfl⟩
    go_wp2_with fail
    go_ret
    subst HB
    exact ⟨rfl, H3.tail.below⟩
  · have hu : unfixOf T 0 b = ((ofBits (T.take (widthN b)) : Int), 0, 0 + widthN b) := by unfold unfixOf; rw [if_neg c1, if_neg (by omega), List.drop_zero, if_neg c3]
    rw [hu] at H3 ⊢
    clear hu
    generalize ofBits (T.take (widthN b)) = V at *
    generalize T.take (widthN b) = TT at *
    generalize widthN b = k at *
    have c2' : k ≤ T.length := by omega
    have c3' : (V : Int) < b := by omega
    clear c1 c2 htl c3
    go_wp2_with fail
    refine (HV.out _).mono ?_
    rintro e w4 ⟨rfl, rfl⟩
    go_wp2_with fail
    refine (HV.out _).mono ?_
    rintro e w4 ⟨rfl, rfl⟩
    rw [Nat.zero_add] at H3
    go_wp2_with fail
    refine (left_ok c2' (by have := HTL.out; omega) H3).mono ?_
    rintro e w4 ⟨rfl, n1, rfl⟩
    go_wp2_with fail
    go_ret
    subst HB
    exact ⟨rfl, (H3.drewN n1).tail.below⟩

end Go.Proofs.Ytoejgfbeemokcaa
