import Derived.Test.YtoejgfbeemokcaaNumPre
namespace Go.Proofs.Ytoejgfbeemokcaa
open Go.RowKit

set_option maxRecDepth 100000 in
set_option maxHeartbeats 1000000 in
theorem law_NumPrefix (a : Int) (wa : (Lit.int .u32 a).wf = true) (b : Int) (wb : (Lit.int .u32 b).wf = true) {w : World} :
    Calls Try.prog 9 #[.int .u32 a, .int .u32 b] w fun e w' => e = .returned (.bool true) ∧ Below w.heap.size w w' := by
  have ha0 := (wf_u32 wa).1
  have ha1 := (wf_u32 wa).2
  have hb0 := (wf_u32 wb).1
  have hb1 := (wf_u32 wb).2
  clear wa wb
  have H := Sep.start w
  generalize hB : HP.old w.heap.size w = O at H
  have HB := Lib.hid hB; clear hB
  obtain ⟨A, rfl⟩ := Int.eq_ofNat_of_zero_le ha0
  obtain ⟨B, rfl⟩ := Int.eq_ofNat_of_zero_le hb0
  have hA : A ≤ 4294967296 := by omega
  have hB2 : B ≤ 4294967296 := by omega
  have hsA : sizeN A ≤ 65 := by have := halfN_le hA; unfold sizeN; omega
  have hsB : sizeN B ≤ 65 := by have := halfN_le hB2; unfold sizeN; omega
  have hlA := longN_length A
  have hlB := longN_length B
  have HPA := Lib.hid (fun (q : Nat) (R : List HP) (w1 : World) (h : Sep w1 (Wr q [] :: R)) => nput_ok (n := A) hA (by simp; omega) h)
  have HPB := Lib.hid (fun (q : Nat) (R : List HP) (w1 : World) (h : Sep w1 (Wr q [] :: R)) => nput_ok (n := B) hB2 (by simp; omega) h)
  have HMO := Lib.hid (fun (h : (A : Int) ≤ B) => show sizeN A ≤ sizeN B from by have := halfN_mono (a := A) hB2 (by omega); unfold sizeN; omega)
  have HEQ := Lib.hid (fun m hm => prefix_eq (m := m) hA hB2 hm)
  generalize longN A = LA at *
  generalize longN B = LB at *
  rw [← hlA, ← hlB] at HEQ HMO
  rw [← hlA] at hsA
  rw [← hlB] at hsB
  have HSA := Lib.hid hsA
  have HSB := Lib.hid hsB
  clear hA hB2 hsA hsB hlA hlB
  go_enter Try.func9, Try.ntmps9
  go_wp2_with fail
  refine (awake2 H).mono ?_
  rintro e w1 ⟨rfl, H1⟩
  clear H
  have H2 := Wr.new H1
  go_wp2_with fail
  have hq : (w1.alloc (.cells #[.slice none 0 0, .int .i64 0] 26)).heap.size = w1.heap.size + 1 := Array.size_push _
  have H3 := Wr.new H2
  rw [hq] at H3
  clear H2 hq
  generalize w1.heap.size = q at H3 ⊢
  generalize w1.alloc (.cells #[.slice none 0 0, .int .i64 0] 26) = w2 at H3 ⊢
  generalize w2.alloc (.cells #[.slice none 0 0, .int .i64 0] 26) = w3 at H3 ⊢
  go_wp2_with fail
  refine (HPA.out _ _ _ H3.swap).mono ?_
  rintro e w4 ⟨rfl, H4⟩
  rw [List.nil_append] at H4
  go_wp2_with fail
  refine (HPB.out _ _ _ H4.swap).mono ?_
  rintro e w5 ⟨rfl, H5⟩
  rw [List.nil_append] at H5
  go_wp2_with fail
  refine (written_calls (by have := HSA.out; omega) H5.swap).mono ?_
  rintro e w6 ⟨rfl, H6⟩
  go_wp2_with fail
  refine (written_calls (by have := HSB.out; omega) H6.swap).mono ?_
  rintro e w7 ⟨rfl, H7⟩
  go_wp2_with fail
  have hmin : min ((bitStr LA).size : Int) ((bitStr LB).size : Int) = ((min LA.length LB.length : Nat) : Int) := by rw [bitStr_size, bitStr_size]; omega
  rw [hmin]
  have hsA := bitStr_size LA
  have hsB := bitStr_size LB
  have hm1 : min LA.length LB.length ≤ LA.length := Nat.min_le_left _ _
  have hm2 : min LA.length LB.length ≤ LB.length := Nat.min_le_right _ _
  have hpre : (((bitStr LA).extract 0 (min LA.length LB.length)).toList == ((bitStr LB).extract 0 (min LA.length LB.length)).toList) = ((A : Int) == (B : Int)) := by
    rw [bitStr_extract, bitStr_extract, bitStr_beq, List.drop_zero, List.drop_zero]
    have h1 := HEQ.out _ rfl
    by_cases hab : A = B
    · rw [decide_eq_true (h1.2 hab), hab]; simp
    · rw [decide_eq_false (fun e => hab (h1.1 e))]
      exact (beq_eq_false_iff_ne.2 (by omega)).symm
  generalize min LA.length LB.length = m at hpre hm1 hm2 ⊢
  have hg : (((A : Int) == (B : Int)) == (((bitStr LA).extract 0 m).toList == ((bitStr LB).extract 0 m).toList)) = true := by rw [hpre]; simp
  clear hpre
  by_cases hab : (B : Int) < (A : Int)
  · clear HMO
    have hd : decide ((A : Int) > (B : Int)) = true := decide_eq_true hab
    (refine wp_region_quiet_lit (by kernel_rfl) (by kernel_rfl) ?_; (repeat (first | go_big_quiet_skip | (go_big_quiet_want; go_big_quiet_op; (try go_bits); first | go_big_quiet_on | go_big_quiet_call ((fail))))); refine wpQuiet_nil ?_; intro _ hw'; obtain ⟨nq, hw''⟩ := hw'; subst hw'')
    go_wp2_with fail
    go_ret
    subst HB
    exact ⟨rfl, (H7.drewN nq).tail.tail.below⟩
  · have hle : LA.length ≤ LB.length := HMO.out (by omega)
    clear HMO
    have hld : decide (LA.length ≤ LB.length) = true := decide_eq_true hle
    have hd : decide ((A : Int) > (B : Int)) = false := decide_eq_false hab
    (refine wp_region_quiet_lit (by kernel_rfl) (by kernel_rfl) ?_; (repeat (first | go_big_quiet_skip | (go_big_quiet_want; go_big_quiet_op; (try go_bits); first | go_big_quiet_on | go_big_quiet_call ((fail))))); refine wpQuiet_nil ?_; intro _ hw'; obtain ⟨nq, hw''⟩ := hw'; subst hw'')
    go_wp2_with fail
    go_ret
    subst HB
    exact ⟨rfl, (H7.drewN nq).tail.tail.below⟩

end Go.Proofs.Ytoejgfbeemokcaa
