/- order: Encode, Decode. -/
import Derived.Test.YticeolbagfaofaaOrd5
namespace Go.Proofs.Yticeolbagfaofaa
open Go.RowKit

set_option maxRecDepth 100000 in
set_option maxHeartbeats 2000000 in
theorem encode_ok {v : Value} {xs : List Int} {q : Nat} {l : List Bool} {R : List HP} {w : World} (hr : rightB xs = true) (hlen : xs.length ≤ 1000) (hl : l.length ≤ 100000) (hrd : Reads R v xs.length 1 (xs.map iv)) (H : Sep w (Wr q l :: R)) :
    Calls Try.prog 13 #[v, .pointer (some ⟨q, 0, none⟩)] w fun e w' => e = .returned (.int .i64 0) ∧ Sep w' (Wr q (l ++ encB xs) :: R) := by
  have hor := oright_calls (by omega) hrd.cons H
  rw [hr] at hor
  obtain ⟨a, cap, rfl⟩ := (hrd w H.tail).form
  have HRD := Lib.hid hrd
  have hp := rightB_iff.1 hr
  have HP0 := Lib.hid (right_perm hp)
  have hbl := encB_length xs
  have hcl := costN_le xs.length (by omega)
  have hcc := fun w1 => cost_calls (n := (xs.length : Int)) (by omega) (by omega) (w := w1)
  rw [Int.toNat_natCast] at hcc
  have HCC := Lib.hid hcc
  have HBL := Lib.hid hbl
  clear hrd hr hp hcc
  generalize costN xs.length = C at *
  clear hbl
  go_enter Try.func13, Try.ntmps13
  go_wp2_with fail
  refine hor.mono ?_
  rintro e w1 ⟨rfl, H1⟩
  clear H hor
  go_wp2_with fail
  refine (len_calls H1).mono ?_
  rintro e w2 ⟨rfl, rfl⟩
  go_wp2_with fail
  refine (HCC.out _).mono ?_
  rintro e w2 ⟨rfl, rfl⟩
  go_wp2_with fail
  refine (numbers_calls (by omega) H1).mono ?_
  rintro e w2 ⟨left, rfl, H2⟩
  clear H1
  go_wp2_with fail
  go_loopg [5, 7, 8, 9, 29] xs.length (fun gk left _ _ _ i wr => ∃ t : Nat, ∃ L : List Int, ∃ B : List Bool, ∃ lv : Value, lv = left ∧ Hid (t ≤ xs.length ∧ gk = xs.length - t ∧ L.length = xs.length - t) ∧ Hid (L.Pairwise (· < ·) ∧ L.Perm (xs.drop t) ∧ B ++ encB (xs.drop t) = encB xs) ∧ i = .int .i64 (t : Int) ∧ Sep wr (HP.row 3 1 lv L.length (L.map iv) :: Wr q (l ++ B) :: R))
  case atStart => exact ⟨0, numsL xs.length, [], _, rfl, Lib.hid ⟨by omega, rfl, by rw [numsL_length]; rfl⟩, Lib.hid ⟨numsL_sorted _, HP0.out, rfl⟩, rfl, by rw [numsL_length, List.append_nil]; exact H2⟩
  case round =>
    clear H2
    obtain ⟨t, L, B, lv, rfl, hq, hh, rfl, Hr⟩ := hrel
    obtain ⟨q1, q2, q3⟩ := hq.out
    clear hq
    by_cases c : t < xs.length
    · have hrw := HRD.out _ Hr.tail.tail
      obtain ⟨g, o, d, he⟩ := hrw.open (by omega)
      simp only [Value.slice.injEq, true_and] at he
      obtain ⟨rfl, rfl⟩ := he
      have hc : wr.cell? ⟨g, o + t, none⟩ = some (.int .i64 xs[t]) := hrw.cell t (iv_get c)
      have hd : xs.drop t = xs[t] :: xs.drop (t + 1) := (List.getElem_cons_drop c).symm
      obtain ⟨h1, h2, h3⟩ := hh.out
      have hdl : (xs.drop (t + 1)).length = xs.length - (t + 1) := List.length_drop
      rw [hd] at h2 h3
      clear hrw hd hh
      generalize xs[t] = x at *
      obtain ⟨la, lc, rfl⟩ := Hr.row_form
      have hk := sorted_at h1 h2
      have hkl : lessN (xs.drop (t + 1)) x < L.length := by have := lessN_le (xs.drop (t + 1)) x; omega
      have hs := fun w1 hw => bsearch_calls (w := w1) (v := .slice la L.length lc) (by omega) h1 hk hw
      have hL1 : ((xs.drop (t + 1)).length + 1 : Nat) = L.length := by omega
      have hB : B ++ valBits (lessN (xs.drop (t + 1)) x) (widthN (L.length : Int)) ++ encB (xs.drop (t + 1)) = encB xs := by
        rw [← h3, encB, hL1, List.append_assoc]
      have hBl := congrArg List.length h3
      rw [encB, List.length_append, List.length_append, valBits_length, hL1, HBL.out] at hBl
      have hw63 := widthN_le (b := (L.length : Int)) (by omega)
      have hf := fun w1 (h : Sep w1 (Wr q (l ++ B) :: HP.row 3 1 (.slice la L.length lc) L.length (L.map iv) :: R)) => fixed_ok (v := (lessN (xs.drop (t + 1)) x : Int)) (b := (L.length : Int)) (w := w1) (by omega) (by omega) (by omega) (by rw [List.length_append]; omega) h
      rw [Int.toNat_natCast, List.append_assoc] at hf
      have hdel := fun w1 (h : Sep w1 (HP.row 3 1 (.slice la L.length lc) L.length (L.map iv) :: Wr q (l ++ (B ++ valBits (lessN (xs.drop (t + 1)) x) (widthN (L.length : Int)))) :: R)) => delete_calls (w := w1) hkl (by omega) h
      have HN : Hid ((L.eraseIdx (lessN (xs.drop (t + 1)) x)).Pairwise (· < ·) ∧ (L.eraseIdx (lessN (xs.drop (t + 1)) x)).Perm (xs.drop (t + 1)) ∧ B ++ valBits (lessN (xs.drop (t + 1)) x) (widthN (L.length : Int)) ++ encB (xs.drop (t + 1)) = encB xs) := Lib.hid ⟨sorted_erase h1 _, perm_erase h2 hk, hB⟩
      have hel : (L.eraseIdx (lessN (xs.drop (t + 1)) x)).length = xs.length - (t + 1) := by rw [List.length_eraseIdx_of_lt hkl]; omega
      have HS := Lib.hid hs
      have HF := Lib.hid hf
      have HD := Lib.hid hdel
      clear hs hf hdel hB hBl hk h1 h2 h3 hL1 hdl hw63
      generalize lessN (xs.drop (t + 1)) x = k at *
      generalize B ++ valBits k (widthN (L.length : Int)) = B2 at *
      generalize hds : L.eraseIdx k = ds at *
      have HEL := Lib.hid hel
      have Q3 := Lib.hid (And.intro q3 (And.intro q1 q2))
      clear hds hel q3 q1 q2
      have hLb : L.length ≤ 1000 := by have := Q3.out; omega
      have hkb : k ≤ 1000 := by omega
      clear hkl
      go_wp2_with fail
      refine (HS.out _ Hr.rd).mono ?_
      rintro e w2 ⟨rfl, rfl⟩
      go_wp2_with fail
      refine (HF.out _ Hr.swap).mono ?_
      rintro e w2 ⟨rfl, H2⟩
      clear Hr hc
      go_wp2_with fail
      refine (HD.out _ H2.swap).mono ?_
      rintro e w3 ⟨r, rfl, H3⟩
      clear H2 HS HF HD HRD HCC
      obtain ⟨ra, rc, rfl⟩ := H3.row_form
      go_wp2_with fail
      go_roundg (xs.length - (t + 1))
      case rel => exact ⟨t + 1, ds, B2, .slice ra ds.length rc, rfl, Lib.hid ⟨by omega, rfl, HEL.out⟩, HN, by go_num, H3⟩
      case measure => have := Q3.out; omega
    · clear q2 q3
      obtain rfl : t = xs.length := by omega
      have hB : B = encB xs := by
        have := hh.out.2.2
        rw [List.drop_length] at this
        rw [← this]; simp [encB]
      subst hB
      go_wp2_with fail
      go_ret
      exact ⟨rfl, Hr.tail⟩

set_option maxRecDepth 100000 in
set_option maxHeartbeats 1000000 in
theorem encode_bad {v u : Value} {xs : List Int} {R : List HP} {w : World} (hr : rightB xs = false) (hlen : xs.length ≤ 1000) (hrd : Reads R v xs.length 1 (xs.map iv)) (H : Sep w R) :
    Calls Try.prog 13 #[v, u] w fun e w' => e = .returned (.int .i64 1) ∧ Sep w' R := by
  have hor := oright_calls (by omega) hrd H
  rw [hr] at hor
  clear hr
  go_enter Try.func13, Try.ntmps13
  go_wp2_with fail
  refine hor.mono ?_
  rintro e w1 ⟨rfl, H1⟩
  go_wp2_with fail
  go_ret
  exact ⟨rfl, H1⟩

set_option maxRecDepth 100000 in
set_option maxHeartbeats 1000000 in
theorem encode_nil {v : Value} {xs : List Int} {R : List HP} {w : World} (hlen : xs.length ≤ 1000) (hrd : Reads R v xs.length 1 (xs.map iv)) (H : Sep w R) :
    Calls Try.prog 13 #[v, .pointer none] w fun e w' => e = .returned (.int .i64 1) ∧ Sep w' R := by
  have hor := oright_calls (by omega) hrd H
  cases hr : rightB xs with
  | false => exact encode_bad hr hlen hrd H
  | true =>
    rw [hr] at hor
    clear hr
    go_enter Try.func13, Try.ntmps13
    go_wp2_with fail
    refine hor.mono ?_
    rintro e w1 ⟨rfl, H1⟩
    go_wp2_with fail
    go_ret
    exact ⟨rfl, H1⟩

end Go.Proofs.Yticeolbagfaofaa
