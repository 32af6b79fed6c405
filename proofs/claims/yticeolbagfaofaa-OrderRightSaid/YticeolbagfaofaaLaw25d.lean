import Derived.Test.YticeolbagfaofaaOrd9
namespace Go.Proofs.Yticeolbagfaofaa
open Go.RowKit

set_option maxRecDepth 100000 in
set_option maxHeartbeats 4000000 in
theorem law_OrderRight (a : Option Addr) (len cap : Nat) (z : List Int) {w : World} (hrow : IsRow .i64 w a len cap z) :
    Calls Try.prog 9 #[.slice a len cap] w fun e w' => e = .returned (.bool true) ∧ Below w.heap.size w w' := by
  obtain ⟨xs, hl, -, hrd, -⟩ := hrow.ints
  subst hl
  clear hrow
  have H := Sep.start w
  have HRD : Hid (Reads [HP.old w.heap.size w] (.slice a xs.length cap) xs.length 1 (xs.map iv)) := Lib.hid (Reads.old hrd)
  clear hrd
  generalize hB : HP.old w.heap.size w = O at H HRD
  have HB := Lib.hid hB; clear hB
  by_cases hfew : 40 < xs.length
  · go_enter Try.func9, Try.ntmps9
    go_wp2_with fail
    refine (awake25 H).mono ?_
    rintro e w1 ⟨rfl, H1⟩
    go_wp2_with fail
    refine (awake25 H1).mono ?_
    rintro e w2 ⟨rfl, H2⟩
    go_wp2_with fail
    go_ret
    subst HB
    exact ⟨rfl, H2.below⟩
  go_enter Try.func9, Try.ntmps9
  go_wp2_with fail
  refine (awake25 H).mono ?_
  rintro e w1 ⟨rfl, H1⟩
  clear H
  have H2 := Wr.new H1
  go_wp2_with fail
  generalize w1.alloc (.cells #[.slice none 0 0, .int .i64 0] 27) = w2 at H2 ⊢
  generalize w1.heap.size = q at H2 ⊢
  refine (rright_calls (by omega) (HRD.out _ H2.tail)).mono ?_
  rintro e w3 ⟨rfl, n3, rfl⟩
  have H3 := H2.drewN n3
  generalize w2.drewN n3 = w3 at H3 ⊢
  clear H2 H1
  have hor := oright_calls (v := .slice a xs.length cap) (by omega) HRD.out.cons H3
  cases hr : rightB xs with
  | true =>
    rw [hr] at hor
    clear hr
    go_wp2_with fail
    refine hor.mono ?_
    rintro e w4 ⟨rfl, H4⟩
    go_wp2_with fail
    go_ret
    subst HB
    exact ⟨rfl, H4.tail.below⟩
  | false =>
    rw [hr] at hor
    have HR := Lib.hid hr
    clear hr
    go_wp2_with fail
    refine hor.mono ?_
    rintro e w4 ⟨rfl, H4⟩
    clear hor H3
    go_wp2_with fail
    refine (invert_calls (by omega) HRD.out.cons H4).mono ?_
    rintro e w5 ⟨r, rfl, ⟨-, rfl, H5⟩ | ⟨hne, -⟩⟩
    rotate_left
    · rw [HR.out] at hne; cases hne
    clear H4
    go_wp2_with fail
    refine (after_calls (by omega) (by omega) HRD.out.cons HRD.out.cons H5).mono ?_
    rintro e w6 ⟨r, rfl, ⟨-, rfl, H6⟩ | ⟨hne, -⟩⟩
    rotate_left
    · rw [HR.out] at hne; cases hne.1
    clear H5
    go_wp2_with fail
    refine (encode_bad HR.out (by omega) HRD.out.cons H6).mono ?_
    rintro e w7 ⟨rfl, H7⟩
    clear H6
    go_wp2_with fail
    refine (len_calls H7).mono ?_
    rintro e w8 ⟨rfl, rfl⟩
    go_wp2_with fail
    go_ret
    subst HB
    exact ⟨rfl, H7.tail.below⟩

end Go.Proofs.Yticeolbagfaofaa
