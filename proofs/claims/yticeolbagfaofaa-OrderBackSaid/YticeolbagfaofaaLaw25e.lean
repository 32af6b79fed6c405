import Derived.Test.YticeolbagfaofaaOrd9
namespace Go.Proofs.Yticeolbagfaofaa
open Go.RowKit

theorem decR_back {p : List Int} {l rest : List Bool} {i : Nat} (hr : rightB p = true) (hl : p.length ≤ 1000) (h : l.drop i = encB p ++ rest) : decR p.length (numsL p.length) (l.drop i) = (p, (encB p).length, 0) := by
  rw [h]
  exact decR_encB p _ rest (by omega) (numsL_sorted _) (right_perm (rightB_iff.1 hr))

set_option maxRecDepth 100000 in
set_option maxHeartbeats 4000000 in
theorem law_OrderBack (a : Option Addr) (len cap : Nat) (z : List Int) {w : World} (hrow : IsRow .i64 w a len cap z) (a2 : Option Addr) (len2 cap2 : Nat) (z2 : List Int) (hrow2 : IsRow .i64 w a2 len2 cap2 z2) :
    Calls Try.prog 4 #[.slice a len cap, .slice a2 len2 cap2] w fun e w' => e = .returned (.bool true) ∧ Below w.heap.size w w' := by
  obtain ⟨xs, hl, -, hrd, -⟩ := hrow.ints
  obtain ⟨ys, hl2, -, hrd2, -⟩ := hrow2.ints
  subst hl
  subst hl2
  clear hrow hrow2
  have H := Sep.start w
  have HRD : Hid (Reads [HP.old w.heap.size w] (.slice a xs.length cap) xs.length 1 (xs.map iv)) := Lib.hid (Reads.old hrd)
  have HRD2 : Hid (Reads [HP.old w.heap.size w] (.slice a2 ys.length cap2) ys.length 1 (ys.map iv)) := Lib.hid (Reads.old hrd2)
  clear hrd hrd2
  generalize hB : HP.old w.heap.size w = O at H HRD HRD2
  have HB := Lib.hid hB; clear hB
  by_cases hfew : 40 < xs.length
  · go_enter Try.func4, Try.ntmps4
    go_wp2_with fail
    refine (awake25 H).mono ?_
    rintro e w1 ⟨rfl, H1⟩
    go_wp2_with fail
    refine (awake25 H1).mono ?_
    rintro e w2 ⟨rfl, H2⟩
    go_wp2_with fail
    go_ret
    subst HB
    exact ⟨rfl, H2.below⟩
  by_cases hfew2 : 40 < ys.length
  · go_enter Try.func4, Try.ntmps4
    go_wp2_with fail
    refine (awake25 H).mono ?_
    rintro e w1 ⟨rfl, H1⟩
    go_wp2_with fail
    refine (awake25 H1).mono ?_
    rintro e w2 ⟨rfl, H2⟩
    go_wp2_with fail
    go_ret
    subst HB
    exact ⟨rfl, H2.below⟩
  go_enter Try.func4, Try.ntmps4
  go_wp2_with fail
  refine (awake25 H).mono ?_
  rintro e w1 ⟨rfl, H1⟩
  clear H
  go_wp2_with fail
  refine (rright_calls (by omega) (HRD.out _ H1)).mono ?_
  rintro e w2 ⟨rfl, n2, rfl⟩
  have H2 := H1.drewN n2
  generalize w1.drewN n2 = w2 at H2 ⊢
  clear H1
  cases hr : rightB xs with
  | false =>
    clear hr
    go_wp2_with fail
    refine (awake25 H2).mono ?_
    rintro e w3 ⟨rfl, H3⟩
    go_wp2_with fail
    go_ret
    subst HB
    exact ⟨rfl, H3.below⟩
  | true =>
  have HR := Lib.hid hr
  clear hr
  go_wp2_with fail
  refine (rright_calls (by omega) (HRD2.out _ H2)).mono ?_
  rintro e w3 ⟨rfl, n3, rfl⟩
  have H3 := H2.drewN n3
  generalize w2.drewN n3 = w3 at H3 ⊢
  clear H2
  cases hr2 : rightB ys with
  | false =>
    clear hr2
    go_wp2_with fail
    refine (awake25 H3).mono ?_
    rintro e w4 ⟨rfl, H4⟩
    go_wp2_with fail
    go_ret
    subst HB
    exact ⟨rfl, H4.below⟩
  | true =>
  have HR2 := Lib.hid hr2
  clear hr2
  have hb1 : (encB xs).length ≤ 2520 := by rw [encB_length]; have := costN_le xs.length (by omega); omega
  have hb2 : (encB ys).length ≤ 2520 := by rw [encB_length]; have := costN_le ys.length (by omega); omega
  have HD1 : Hid (decR xs.length (numsL xs.length) ((encB xs ++ encB ys).drop 0) = (xs, (encB xs).length, 0)) := Lib.hid (decR_back (rest := encB ys) HR.out (by omega) (by rw [List.drop_zero]))
  have HD2 : Hid (decR ys.length (numsL ys.length) ((encB xs ++ encB ys).drop (0 + (encB xs).length)) = (ys, (encB ys).length, 0)) := Lib.hid (decR_back (rest := []) HR2.out (by omega) (by rw [Nat.zero_add, List.drop_left, List.append_nil]))
  have HE1 := Lib.hid (fun (q : Nat) (w1 : World) (h : Sep w1 (Wr q [] :: [O])) => encode_ok HR.out (by omega) (by simp) HRD.out h)
  have HE2 := Lib.hid (fun (q : Nat) (w1 : World) (h : Sep w1 (Wr q ([] ++ encB xs) :: [O])) => encode_ok HR2.out (by omega) (by rw [List.nil_append]; omega) HRD2.out h)
  have hbl : (encB xs ++ encB ys).length = (encB xs).length + (encB ys).length := List.length_append
  generalize encB xs = E1 at *
  generalize encB ys = E2 at *
  have H4 := Wr.new H3
  go_wp2_with fail
  generalize w3.alloc (.cells #[.slice none 0 0, .int .i64 0] 27) = w4 at H4 ⊢
  generalize w3.heap.size = q at H4 ⊢
  clear H3
  refine (HE1.out _ _ H4).mono ?_
  rintro e w5 ⟨rfl, H5⟩
  clear H4
  go_wp2_with fail
  refine (HE2.out _ _ H5).mono ?_
  rintro e w6 ⟨rfl, H6⟩
  rw [List.nil_append] at H6
  clear H5 HE1 HE2
  have HBL := Lib.hid hbl
  have hbt : (E1 ++ E2).length ≤ 5040 := by omega
  clear hbl
  generalize E1 ++ E2 = T at *
  go_wp2_with fail
  refine (bytes_ok (by omega) H6).mono ?_
  rintro e w7 ⟨v, rfl, H7⟩
  obtain ⟨ra, rc, rfl⟩ := H7.row_form
  clear H6
  go_wp2_with fail
  refine (len_calls H7.tail).mono ?_
  rintro e w8 ⟨rfl, rfl⟩
  go_wp2_with fail
  refine (nr_ok (by omega) H7.rd H7).mono ?_
  rintro e w8 ⟨r, rfl, qr, rfl, H8⟩
  replace H8 := H8.swap.tail.swap.tail
  clear H7
  go_wp2_with fail
  refine (decode_calls (n := xs.length) (by omega) (by omega) (by omega) H8).mono ?_
  rintro e w9 ⟨r, rfl, hpost⟩
  unfold DecPost at hpost
  rw [HD1.out] at hpost
  rcases hpost with ⟨hne, -, -⟩ | ⟨-, v9, rfl, -, hle, H9⟩
  · exact absurd rfl hne
  obtain ⟨a9, c9, rfl⟩ := H9.row_form
  simp only at hle H9
  clear H8 HD1
  go_wp2_with fail
  refine (decode_calls (n := ys.length) (by omega) hle (by omega) H9.swap).mono ?_
  rintro e w10 ⟨r, rfl, hpost⟩
  unfold DecPost at hpost
  rw [HD2.out] at hpost
  rcases hpost with ⟨hne, -, -⟩ | ⟨-, v10, rfl, -, hle2, H10⟩
  · exact absurd rfl hne
  obtain ⟨a10, c10, rfl⟩ := H10.row_form
  simp only at hle2 H10
  clear H9 HD2
  have H10' : Sep w10 (HP.row 3 1 (.slice a10 ys.length c10) ys.length (ys.map iv) :: Rdr qr T (0 + E1.length + E2.length) :: HP.row 3 1 (.slice a9 xs.length c9) xs.length (xs.map iv) :: [O]) := H10
  clear H10
  go_wp2_with fail
  refine (ints_same (by omega) H10'.tail.tail.rd (HRD.out _ H10'.tail.tail.tail)).mono ?_
  rintro e w11 ⟨rfl, n11, rfl⟩
  have H11 := H10'.drewN n11
  generalize w10.drewN n11 = w11 at H11 ⊢
  clear H10'
  go_wp2_with fail
  refine (ints_same (by omega) H11.rd (HRD2.out _ H11.tail.tail.tail)).mono ?_
  rintro e w12 ⟨rfl, n12, rfl⟩
  have H12 := H11.drewN n12
  generalize w11.drewN n12 = w12 at H12 ⊢
  clear H11
  have hz : (T.length : Int) - ((0 + E1.length + E2.length : Nat) : Int) = 0 := by have := HBL.out; omega
  have hleft := left_ok hle2 (by omega) H12.tail
  rw [hz] at hleft
  clear hz
  go_wp2_with fail
  refine hleft.mono ?_
  rintro e w13 ⟨rfl, n13, rfl⟩
  go_wp2_with fail
  go_ret
  subst HB
  exact ⟨rfl, (H12.drewN n13).tail.tail.tail.below⟩

end Go.Proofs.Yticeolbagfaofaa
