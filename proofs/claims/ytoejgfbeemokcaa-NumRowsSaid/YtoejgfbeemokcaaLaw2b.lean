import Derived.Test.YtoejgfbeemokcaaLaw2a
namespace Go.Proofs.Ytoejgfbeemokcaa
open Go.RowKit

theorem bitStr_toList (l : List Bool) : (bitStr l).toList = l.map chr := ByteArray.toList_mk _
theorem bitStr_empty {l : List Bool} (h : l ≠ []) : (bitStr l).toList.isEmpty = false := by
  rw [bitStr_toList]
  cases l with
  | nil => exact absurd rfl h
  | cons x l => rfl

set_option maxRecDepth 100000 in
set_option maxHeartbeats 1000000 in
theorem law_NumPuts (n : Int) (wn : (Lit.int .u64 n).wf = true) {w : World} :
    Calls Try.prog 8 #[.int .u64 n] w fun e w' => e = .returned (.bool true) ∧ Below w.heap.size w w' := by
  have hn0 := (wf_u64 wn).1
  have hn1 := (wf_u64 wn).2
  clear wn
  have H := Sep.start w
  generalize hB : HP.old w.heap.size w = O at H
  have HB := Lib.hid hB; clear hB
  by_cases hb : 4294967296 < n
  · go_enter Try.func8, Try.ntmps8
    go_wp2_with fail
    refine (awake2 H).mono ?_
    rintro e w1 ⟨rfl, H1⟩
    clear H
    have H2 := Wr.new H1
    go_wp2_with fail
    generalize w1.heap.size = q at H2 ⊢
    generalize w1.alloc (.cells #[.slice none 0 0, .int .i64 0] 26) = w2 at H2 ⊢
    refine (nput_big hb q).mono ?_
    rintro e w3 ⟨rfl, rfl⟩
    go_wp2_with fail
    refine (long_big hb).mono ?_
    rintro e w3 ⟨rfl, rfl⟩
    go_wp2_with fail
    refine (len_calls H2).mono ?_
    rintro e w3 ⟨rfl, rfl⟩
    go_wp2_with fail
    refine (size_big hb).mono ?_
    rintro e w3 ⟨rfl, rfl⟩
    go_wp2_with fail
    go_ret
    subst HB
    exact ⟨rfl, H2.tail.below⟩
  · obtain ⟨m, rfl⟩ := Int.eq_ofNat_of_zero_le hn0
    have hm : m ≤ 4294967296 := by omega
    have hsz : sizeN m ≤ 65 := by have := halfN_le hm; unfold sizeN; omega
    have hlen := longN_length m
    have hne : longN m ≠ [] := by intro e; rw [e] at hlen; unfold sizeN at hlen; simp at hlen
    have HE := Lib.hid (bitStr_empty hne)
    have HSZ := Lib.hid hsz
    have HLEN := Lib.hid hlen
    have HM := Lib.hid hm
    clear hsz hlen hne hm hb
    go_enter Try.func8, Try.ntmps8
    go_wp2_with fail
    refine (awake2 H).mono ?_
    rintro e w1 ⟨rfl, H1⟩
    clear H
    have H2 := Wr.new H1
    go_wp2_with fail
    generalize w1.heap.size = q at H2 ⊢
    generalize w1.alloc (.cells #[.slice none 0 0, .int .i64 0] 26) = w2 at H2 ⊢
    refine (nput_ok (n := m) HM.out (by have := HSZ.out; simp; omega) H2).mono ?_
    rintro e w3 ⟨rfl, H3⟩
    rw [List.nil_append] at H3
    go_wp2_with fail
    refine (long_calls (n := m) HM.out).mono ?_
    rintro e w4 ⟨rfl, rfl⟩
    have he := HE.out
    go_wp2_with fail
    refine (written_calls (by have := HLEN.out; have := HSZ.out; omega) H3).mono ?_
    rintro e w4 ⟨rfl, H4⟩
    go_wp2_with fail
    refine (size_calls (n := m) HM.out).mono ?_
    rintro e w5 ⟨rfl, rfl⟩
    have hsz : (bitStr (longN m)).size = sizeN m := by rw [bitStr_size, HLEN.out]
    obtain ⟨s, hs⟩ : ∃ s, s = sizeN m := ⟨_, rfl⟩
    rw [← hs] at hsz ⊢
    clear hs
    go_wp2_with fail
    go_ret
    subst HB
    exact ⟨rfl, H4.tail.below⟩

end Go.Proofs.Ytoejgfbeemokcaa
