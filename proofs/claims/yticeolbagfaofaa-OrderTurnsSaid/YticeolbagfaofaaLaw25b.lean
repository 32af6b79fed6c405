import Derived.Test.YticeolbagfaofaaOrd9
namespace Go.Proofs.Yticeolbagfaofaa
open Go.RowKit

set_option maxRecDepth 100000 in
set_option maxHeartbeats 4000000 in
theorem law_OrderTurns (a : Option Addr) (len cap : Nat) (z : List Int) {w : World} (hrow : IsRow .i64 w a len cap z) :
    Calls Try.prog 10 #[.slice a len cap] w fun e w' => e = .returned (.bool true) ∧ Below w.heap.size w w' := by
  obtain ⟨xs, hl, -, hrd, -⟩ := hrow.ints
  subst hl
  clear hrow
  have H := Sep.start w
  have HRD : Hid (Reads [HP.old w.heap.size w] (.slice a xs.length cap) xs.length 1 (xs.map iv)) := Lib.hid (Reads.old hrd)
  clear hrd
  generalize hB : HP.old w.heap.size w = O at H HRD
  have HB := Lib.hid hB; clear hB
  by_cases hfew : 40 < xs.length
  · go_enter Try.func10, Try.ntmps10
    go_wp2_with fail
    refine (awake25 H).mono ?_
    rintro e w1 ⟨rfl, H1⟩
    go_wp2_with fail
    refine (awake25 H1).mono ?_
    rintro e w2 ⟨rfl, H2⟩
    go_wp2_with fail
    go_ret
    subst HB
    exact ⟨rfl, H2.below⟩
  go_enter Try.func10, Try.ntmps10
  go_wp2_with fail
  refine (awake25 H).mono ?_
  rintro e w1 ⟨rfl, H1⟩
  clear H
  go_wp2_with fail
  refine (rright_calls (by omega) (HRD.out _ H1)).mono ?_
  rintro e w2 ⟨rfl, n2, rfl⟩
  have H2 := H1.drewN n2
  generalize w1.drewN n2 = w2 at H2 ⊢
  clear H1
  cases hr : rightB xs with
  | false =>
    clear hr
    go_wp2_with fail
    refine (awake25 H2).mono ?_
    rintro e w3 ⟨rfl, H3⟩
    go_wp2_with fail
    go_ret
    subst HB
    exact ⟨rfl, H3.below⟩
  | true =>
  have HR := Lib.hid hr
  have hp := rightB_iff.1 hr
  have HPR := Lib.hid hp
  have hql := invL_length xs
  have HRQ := Lib.hid (rightB_iff.2 (inv_right hp))
  have HII := Lib.hid (inv_inv hp)
  have HA1 : Hid (∀ i, i < xs.length → (afterL xs (invL xs))[i]? = some (i : Int)) := Lib.hid fun i hi => after_inv hp hi
  have HA2 : Hid (∀ i, i < xs.length → (afterL (invL xs) xs)[i]? = some (i : Int)) := Lib.hid fun i hi => inv_after hp hi
  have HQ1 : Hid (∀ i (hi : i < xs.length), ∃ k : Nat, xs[i] = (k : Int) ∧ k < xs.length ∧ (invL xs)[k]? = some (i : Int)) := Lib.hid fun i hi => by
    have hr := hp.1 _ (List.getElem_mem hi)
    have h2 := inv_at hp hi
    refine ⟨xs[i].toNat, (Int.toNat_of_nonneg hr.1).symm, by omega, ?_⟩
    have hk : xs[i].toNat < (invL xs).length := by rw [hql]; omega
    rw [List.getD, List.getElem?_eq_getElem hk] at h2
    rw [List.getElem?_eq_getElem hk]
    exact congrArg some h2
  clear hr hp
  go_wp2_with fail
  refine (invert_calls (by omega) HRD.out H2).mono ?_
  rintro e w3 ⟨r, rfl, ⟨hne, -⟩ | ⟨-, vq, rfl, H3⟩⟩
  · rw [HR.out] at hne; cases hne
  clear H2
  generalize invL xs = ps at *
  have HQL := Lib.hid hql
  obtain ⟨qa, qc, rfl⟩ := H3.row_form
  have hrq : Reads (HP.row 3 1 (.slice qa xs.length qc) xs.length (ps.map iv) :: [O]) (.slice qa xs.length qc) ps.length 1 (ps.map iv) := by rw [hql]; exact Reads.row
  have HRDQ := Lib.hid hrq
  have hpl40 : ps.length ≤ 40 := by omega
  clear hql hrq
  go_wp2_with fail
  refine (invert_calls (by omega) HRDQ.out H3).mono ?_
  rintro e w4 ⟨r, rfl, ⟨hne, -⟩ | ⟨-, vr, rfl, H4⟩⟩
  · rw [HRQ.out] at hne; cases hne
  clear H3
  rw [HII.out, HQL.out] at H4
  obtain ⟨ra, rc, rfl⟩ := H4.row_form
  go_wp2_with fail
  refine (after_calls (by omega) (by omega) HRD.out.cons.cons HRDQ.out.cons H4).mono ?_
  rintro e w5 ⟨r, rfl, ⟨hne, -⟩ | ⟨-, v5, rfl, H5⟩⟩
  · have h1 := HR.out
    have h2 := HRQ.out
    have h3 := HQL.out
    rcases hne with h | h | h
    · rw [h1] at h; cases h
    · rw [h2] at h; cases h
    · exact absurd h3.symm h
  clear H4
  obtain ⟨a5, c5, rfl⟩ := H5.row_form
  go_wp2_with fail
  refine (after_calls (by omega) (by omega) HRDQ.out.cons.cons HRD.out.cons.cons.cons H5).mono ?_
  rintro e w6 ⟨r, rfl, ⟨hne, -⟩ | ⟨-, v6, rfl, H6⟩⟩
  · have h1 := HR.out
    have h2 := HRQ.out
    have h3 := HQL.out
    rcases hne with h | h | h
    · rw [h2] at h; cases h
    · rw [h1] at h; cases h
    · exact absurd h3 h
  clear H5
  rw [HQL.out] at H6
  obtain ⟨a6, c6, rfl⟩ := H6.row_form
  go_wp2_with fail
  refine (ints_same (by omega) H6.tail.tail.rd (HRD.out _ H6.tail.tail.tail.tail)).mono ?_
  rintro e w7 ⟨rfl, n7, rfl⟩
  have H7 := H6.drewN n7
  generalize w6.drewN n7 = w7 at H7 ⊢
  clear H6
  go_wp2_with fail
  go_loopg [11, 90] xs.length (fun gk _ i wr => wr = w7 ∧ ∃ t : Nat, Hid (t ≤ xs.length ∧ gk = xs.length - t) ∧ i = .int .i64 (t : Int))
  case atStart => exact ⟨rfl, 0, Lib.hid ⟨by omega, rfl⟩, rfl⟩
  case round =>
    obtain ⟨rfl, t, hq, rfl⟩ := hrel
    obtain ⟨q1, q2⟩ := hq.out
    clear hq
    by_cases c : t < xs.length
    · obtain ⟨g, o, d, he⟩ := (HRD.out _ H7.tail.tail.tail.tail).open (by omega)
      simp only [Value.slice.injEq, true_and] at he
      obtain ⟨rfl, rfl⟩ := he
      have c0 : wr.cell? ⟨g, o + t, none⟩ = some (.int .i64 xs[t]) := (HRD.out _ H7.tail.tail.tail.tail).cell t (iv_get c)
      obtain ⟨k, hk1, hk2, hk3⟩ := HQ1.out t c
      rw [hk1] at c0
      obtain ⟨gq, cq, _, he, -⟩ := H7.tail.tail.tail.row_open (by omega)
      simp only [Value.slice.injEq, true_and] at he
      obtain ⟨rfl, rfl⟩ := he
      have cq1 : wr.cell? ⟨gq, k, none⟩ = some (.int .i64 (t : Int)) := H7.tail.tail.tail.row_cell k (by rw [List.getElem?_map, hk3]; rfl)
      obtain ⟨ga, ca, _, he, -⟩ := H7.tail.row_open (by omega)
      simp only [Value.slice.injEq, true_and] at he
      obtain ⟨rfl, rfl⟩ := he
      have ca1 : wr.cell? ⟨ga, t, none⟩ = some (.int .i64 (t : Int)) := H7.tail.row_cell t (by rw [List.getElem?_map, HA1.out t c]; rfl)
      obtain ⟨gb, cb, _, he, -⟩ := H7.row_open (by omega)
      simp only [Value.slice.injEq, true_and] at he
      obtain ⟨rfl, rfl⟩ := he
      have cb1 : wr.cell? ⟨gb, t, none⟩ = some (.int .i64 (t : Int)) := H7.row_cell t (by rw [List.getElem?_map, HA2.out t c]; rfl)
      clear hk1 hk3
      go_wp2_with fail
      go_roundg (xs.length - (t + 1))
      case rel => exact ⟨rfl, t + 1, Lib.hid ⟨by omega, rfl⟩, by go_num⟩
      case measure => omega
    · go_wp2_with fail
      go_ret
      subst HB
      exact ⟨rfl, H7.tail.tail.tail.tail.below⟩

end Go.Proofs.Yticeolbagfaofaa
