import Derived.Test.YtoejgfbeemokcaaLaw1
import Derived.Test.YtoejgfbeemokcaaFrame
namespace Go.Proofs.Ytoejgfbeemokcaa
open Go.RowKit

set_option maxHeartbeats 1000000 in
theorem law_BitsFull (n : Int) (wf : (Lit.int .u8 n).wf = true) (w : World) :
    Calls Try.prog 7 #[.int .u8 n] w fun e w' => e = .returned (.bool true) ∧ Below w.heap.size w w' := by
  have hn := wf_u8 wf
  have hn1 : 0 ≤ n := hn.1
  have hn2 : n ≤ 255 := hn.2
  clear hn wf
  have H := Sep.start w
  generalize hB : HP.old w.heap.size w = O at H
  have HB := Lib.hid hB; clear hB
  go_enter Try.func7, Try.ntmps7
  go_wp2_with fail
  refine (awake1 H).mono ?_
  rintro e w1 ⟨rfl, H1⟩
  clear H
  go_wp2_with ((at_make; go_must (refine wpList_make_sep rfl _ _ 24 rfl 5 (.int .u8 0) 1 Try.underlying24 info_u8 rfl H1 .i64 .i64 9 9 9 rfl rfl rfl rfl (by omega) (by unfold maxLen; omega) ?_); intro g w2 H3))
  refine Calls.mono (nr_range _ _ ?_) ?_
  · omega
  rintro e w3 ⟨rfl, rfl⟩
  go_wp2_with fail
  refine Calls.mono (nr_range _ _ ?_) ?_
  · omega
  rintro e w3 ⟨rfl, rfl⟩
  go_wp2_with fail
  refine (nr_ok (l := []) (by decide) ⟨rfl, .inl ⟨rfl, rfl⟩⟩ H3).mono ?_
  rintro e w4 ⟨v, rfl, b, rfl, H4⟩
  go_wp2_with fail
  refine (left_ok (by decide) (by decide) H4).mono ?_
  rintro e w5 ⟨rfl, k, rfl⟩
  go_wp2_with fail
  go_ret
  subst HB
  exact ⟨rfl, (H4.drewN k).tail.tail.below⟩

set_option maxHeartbeats 1000000 in
theorem law_BitsNone (v : Int) (_wv : (Lit.int .u64 v).wf = true) (n : Int) (_wn : (Lit.int .i64 n).wf = true) (w : World) :
    Calls Try.prog 13 #[.int .u64 v, .int .i64 n] w fun e w' => e = .returned (.bool true) ∧ Below w.heap.size w w' := by
  have H := Sep.start w
  generalize hB : HP.old w.heap.size w = O at H
  have HB := Lib.hid hB; clear hB
  go_enter Try.func13, Try.ntmps13
  go_wp2_with fail
  refine (awake1 H).mono ?_
  rintro e w1 ⟨rfl, H1⟩
  clear H
  go_wp2_with fail
  refine (get_nil _).mono ?_
  rintro e w2 ⟨rfl, rfl⟩
  go_wp2_with fail
  refine rbit_nil.mono ?_
  rintro e w2 ⟨rfl, rfl⟩
  go_wp2_with fail
  refine (put_nil _ _).mono ?_
  rintro e w2 ⟨rfl, rfl⟩
  go_wp2_with fail
  refine (wbit_nil _).mono ?_
  rintro e w2 ⟨rfl, rfl⟩
  go_wp2_with fail
  refine len_nil.mono ?_
  rintro e w2 ⟨rfl, rfl⟩
  go_wp2_with fail
  refine bytes_nil.mono ?_
  rintro e w2 ⟨rfl, rfl⟩
  go_wp2_with fail
  refine left_nil.mono ?_
  rintro e w2 ⟨rfl, rfl⟩
  go_wp2_with fail
  refine at_nil.mono ?_
  rintro e w2 ⟨rfl, rfl⟩
  go_wp2_with fail
  go_ret
  subst HB
  exact ⟨rfl, H1.below⟩

end Go.Proofs.Ytoejgfbeemokcaa
