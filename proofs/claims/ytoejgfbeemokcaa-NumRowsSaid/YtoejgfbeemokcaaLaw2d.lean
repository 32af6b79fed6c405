import Derived.Test.YtoejgfbeemokcaaLaw2c
namespace Go.Proofs.Ytoejgfbeemokcaa
open Go.RowKit

set_option maxRecDepth 100000 in
set_option maxHeartbeats 1000000 in
theorem law_NumFixed (v : Int) (_wv : (Lit.int .i64 v).wf = true) (b : Int) (wb : (Lit.int .i64 b).wf = true) {w : World} :
    Calls Try.prog 14 #[.int .i64 v, .int .i64 b] w fun e w' => e = .returned (.bool true) ∧ Below w.heap.size w w' := by
  have hb0 := (wf_i64 wb).1
  have hb1 := (wf_i64 wb).2
  clear wb
  have H := Sep.start w
  generalize hB : HP.old w.heap.size w = O at H
  have HB := Lib.hid hB; clear hB
  have hrw : ∀ w1, _ := fun w1 => rwidth_calls hb0 hb1 (w := w1)
  have hnw : ∀ w1, _ := fun w1 => width_calls hb1 hb0 (w := w1)
  have hk63 := widthN_le hb1
  by_cases hr : v < 0 ∨ b ≤ v
  · generalize widthN b = k at hrw hnw hk63
    have HRW := Lib.hid hrw
    have HNW := Lib.hid hnw
    have HR := Lib.hid hr
    clear hrw hnw hb0 hb1 hr
    go_enter Try.func14, Try.ntmps14
    go_wp2_with fail
    refine (awake2 H).mono ?_
    rintro e w1 ⟨rfl, H1⟩
    clear H
    have H2 := Wr.new H1
    go_wp2_with fail
    generalize w1.heap.size = q at H2 ⊢
    generalize w1.alloc (.cells #[.slice none 0 0, .int .i64 0] 26) = w2 at H2 ⊢
    refine (fixed_range HR.out q).mono ?_
    rintro e w3 ⟨rfl, rfl⟩
    go_wp2_with fail
    refine (HRW.out _).mono ?_
    rintro e w3 ⟨rfl, rfl⟩
    go_wp2_with fail
    refine (HNW.out _).mono ?_
    rintro e w3 ⟨rfl, rfl⟩
    by_cases hv : v < 0
    · clear HR
      go_wp2_with fail
      refine (len_calls H2).mono ?_
      rintro e w3 ⟨rfl, rfl⟩
      go_wp2_with fail
      go_ret
      subst HB
      exact ⟨rfl, H2.tail.below⟩
    · have hv2 : b ≤ v := HR.out.resolve_left hv
      clear HR
      go_wp2_with fail
      refine (len_calls H2).mono ?_
      rintro e w3 ⟨rfl, rfl⟩
      go_wp2_with fail
      go_ret
      subst HB
      exact ⟨rfl, H2.tail.below⟩
  · have hv0 : 0 ≤ v := by omega
    have hvb : v < b := by omega
    clear hr
    obtain ⟨V, rfl⟩ := Int.eq_ofNat_of_zero_le hv0
    have HFX := Lib.hid (fun (q : Nat) (R : List HP) (w1 : World) (h : Sep w1 (Wr q [] :: R)) => fixed_ok (q := q) (l := []) hv0 hvb hb1 (by simp; omega) h)
    have hV : V < 2 ^ 64 := by have := two64; omega
    have hVI : (V : Int) ≤ 9223372036854775807 := by omega
    have HBIN := Lib.hid (fun (w1 : World) => binary_int (v := V) (n := widthN b) rfl rfl hV (by omega) (w := w1))
    generalize widthN b = k at hrw hnw hk63 HFX HBIN
    have HRW := Lib.hid hrw
    have HNW := Lib.hid hnw
    have HK := Lib.hid hk63
    clear hrw hnw hb0 hb1 hk63 hV
    go_enter Try.func14, Try.ntmps14
    go_wp2_with fail
    refine (awake2 H).mono ?_
    rintro e w1 ⟨rfl, H1⟩
    clear H
    have H2 := Wr.new H1
    go_wp2_with fail
    generalize w1.heap.size = q at H2 ⊢
    generalize w1.alloc (.cells #[.slice none 0 0, .int .i64 0] 26) = w2 at H2 ⊢
    refine (HFX.out _ _ _ H2).mono ?_
    rintro e w3 ⟨rfl, H3⟩
    rw [List.nil_append] at H3
    go_wp2_with fail
    refine (HRW.out _).mono ?_
    rintro e w4 ⟨rfl, rfl⟩
    go_wp2_with fail
    refine (HNW.out _).mono ?_
    rintro e w4 ⟨rfl, rfl⟩
    go_wp2_with fail
    refine (written_calls (by rw [valBits_length]; have := HK.out; omega) H3).mono ?_
    rintro e w4 ⟨rfl, H4⟩
    go_wp2_with fail
    refine (HBIN.out _).mono ?_
    rintro e w5 ⟨rfl, rfl⟩
    go_wp2_with fail
    go_ret
    subst HB
    exact ⟨rfl, H4.tail.below⟩

end Go.Proofs.Ytoejgfbeemokcaa
