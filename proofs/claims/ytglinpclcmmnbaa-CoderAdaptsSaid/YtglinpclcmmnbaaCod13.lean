/- coder: the decoder's next byte; NewDecoder. -/
import Derived.Test.YtglinpclcmmnbaaBytesEq
import Derived.Test.YtglinpclcmmnbaaCod11
namespace Go.Proofs.Ytglinpclcmmnbaa
open Go.RowKit Go.Shelf

set_option maxRecDepth 100000 in
set_option maxHeartbeats 2000000 in
theorem next_calls {q j : Nat} {sv hv ev : Value} {b : List Nat} {F : List HP} {w : World} (hj : j ≤ 1000000) (hlt : ∀ d ∈ b, d < 256)
    (H : Sep w (HP.pt q #[sv, .int .i64 (j : Int), hv, ev] 96 :: HP.row 5 1 sv b.length (b.map bv) :: F)) :
    Calls Try.prog 63 #[.pointer (some ⟨q, 0, none⟩)] w fun e w' => e = .returned (.int .u64 ((b.getD j 0 : Nat) : Int)) ∧ Sep w' (HP.pt q #[sv, .int .i64 ((j + 1 : Nat) : Int), hv, ev] 96 :: HP.row 5 1 sv b.length (b.map bv) :: F) := by
  obtain ⟨a, c, rfl⟩ := H.tail.row_form
  have c0 := H.cell 0 rfl
  have c1 := H.cell 1 rfl
  have f1 := H.froz 1
  have H1 := H.set 1 (.int .i64 ((j : Int) + 1))
  have e1 : ((j + 1 : Nat) : Int) = (j : Int) + 1 := by omega
  rw [e1]
  clear e1
  by_cases h : j < b.length
  · obtain ⟨g, cap, _, he, -⟩ := H.tail.row_open (by omega)
    simp only [Value.slice.injEq, true_and] at he
    obtain ⟨rfl, rfl⟩ := he
    have k0 := H.tail.row_cell j (bv_at b j h)
    have hd := hlt _ (List.getElem_mem h)
    have hget : b.getD j 0 = b[j] := by simp [List.getD, List.getElem?_eq_getElem h]
    rw [hget]
    generalize b[j] = d at *
    have hji : (j : Int) < (b.length : Int) := by omega
    have hwr : IntKind.u64.wrap (d : Int) = (d : Int) := by
      simp only [IntKind.wrap, IntKind.signed, IntKind.bits]
      first | omega | (simp; omega)
    clear hget
    go_enter Try.func63, Try.ntmps63
    go_wp2_with fail
    go_region
    go_wp2_with fail
    go_region
    go_wp2_with fail
    go_ret
    exact ⟨rfl, H1.drew.drew⟩
  · have hget : b.getD j 0 = 0 := by simp [List.getD, List.getElem?_eq_none (Nat.le_of_not_lt h)]
    rw [hget]
    have hji : ¬ (j : Int) < (b.length : Int) := by omega
    clear hget
    go_enter Try.func63, Try.ntmps63
    go_wp2_with fail
    go_region
    go_wp2_with fail
    go_ret
    exact ⟨rfl, H1.drew⟩

/-- A decoder of bytes b, behind an interval. -/
def DecAt (q : Nat) (b : List Nat) (x : Nat × Nat × Nat) (qe at' h : Nat) : HP := HP.ex fun sv => HP.all [HP.pt q #[sv, .int .i64 (at' : Int), .int .u64 (h : Int), .pointer (some ⟨qe, 0, none⟩)] 96, HP.row 5 1 sv b.length (b.map bv), EncI qe x]
theorem DecAt.open {w : World} {q qe at' h : Nat} {b : List Nat} {x : Nat × Nat × Nat} {F : List HP} (H : Sep w (DecAt q b x qe at' h :: F)) :
    ∃ a c, Sep w (HP.pt q #[.slice a b.length c, .int .i64 (at' : Int), .int .u64 (h : Int), .pointer (some ⟨qe, 0, none⟩)] 96 :: HP.row 5 1 (.slice a b.length c) b.length (b.map bv) :: EncI qe x :: F) := by
  obtain ⟨v, h⟩ := H.ex_elim
  have h := h.all_elim
  obtain ⟨a, c, rfl⟩ := (Sep.tail h).row_form
  exact ⟨a, c, h⟩
theorem DecAt.shut {w : World} {q qe at' h : Nat} {v : Value} {b : List Nat} {x : Nat × Nat × Nat} {F : List HP} (H : Sep w (HP.pt q #[v, .int .i64 (at' : Int), .int .u64 (h : Int), .pointer (some ⟨qe, 0, none⟩)] 96 :: HP.row 5 1 v b.length (b.map bv) :: EncI qe x :: F)) :
    Sep w (DecAt q b x qe at' h :: F) := Sep.ex_intro v (Sep.all_intro H)
/-- .. as it stands between two symbols. -/
def DecI (q : Nat) (b : List Nat) (x : Nat × Nat × Nat) : HP := HP.ex fun qe => DecAt q b x qe (x.1 + 4) (valD (wideL b (x.1 + 4)) - x.2.1)
theorem valD_wide_succ (b : List Nat) (K : Nat) : valD (wideL b (K + 1)) = valD (wideL b K) * 256 + b.getD K 0 := by rw [wideL_succ, valD_snoc]
theorem wide_get_lt {b : List Nat} (h : ∀ d ∈ b, d < 256) (K : Nat) : b.getD K 0 < 256 := by
  simp only [List.getD]
  rcases Nat.lt_or_ge K b.length with h1 | h1
  · rw [List.getElem?_eq_getElem h1]; exact h _ (List.getElem_mem h1)
  · rw [List.getElem?_eq_none h1]; decide

set_option maxRecDepth 100000 in
set_option maxHeartbeats 4000000 in
theorem newdec_calls {v : Value} {b : List Nat} {F : List HP} {w : World} (hl : b.length ≤ 1000000) (hlt : ∀ d ∈ b, d < 256) (hrd : Reads F v b.length 1 (b.map bv)) (H : Sep w F) :
    Calls Try.prog 45 #[v] w (Gives fun r w' => ∃ q, r = .pointer (some ⟨q, 0, none⟩) ∧ Sep w' (DecI q b firstI :: F)) := by
  obtain ⟨va, vc, rfl⟩ := (hrd w H).form
  go_enter Try.func45, Try.ntmps45
  go_wp2_with fail
  refine (bclone_calls hl hrd H).mono ?_
  rintro _ w1 ⟨r, rfl, H1⟩
  obtain ⟨ra, rc, rfl⟩ := H1.row_form
  clear H
  go_wp2_with fail
  refine (cnew_calls H1).mono ?_
  rintro _ w2 ⟨qe, rfl, H2⟩
  have H3 := H2.alloc #[.slice ra b.length rc, .int .i64 0, .int .u64 0, .pointer (some ⟨qe, 0, none⟩)] 96
  clear H1
  go_wp2_with fail
  generalize w2.heap.size = q at *
  go_loopg [9] 4 (fun gk j wr => ∃ i : Nat, Hid (i ≤ 4 ∧ gk = 4 - i) ∧ j = .int .i64 (i : Int) ∧ Sep wr (DecAt q b firstI qe i (valD (wideL b i)) :: F))
  case atStart => exact ⟨0, Lib.hid ⟨by omega, rfl⟩, rfl, DecAt.shut (v := .slice ra b.length rc) (H3.cons_congr (fun _ => SepOn.perm (.swap _ _ _) _))⟩
  case round =>
    clear H3 H2
    obtain ⟨i, hq, rfl, Hr⟩ := hrel
    obtain ⟨q1, q2⟩ := hq.out
    clear hq
    by_cases hi : i < 4
    · obtain ⟨a, c, H4⟩ := DecAt.open Hr
      clear Hr
      have c0 := H4.cell 2 rfl
      have hV : valD (wideL b i) < 1099511627776 := by
        have h1 := valD_lt (wideL b i) (wideL_lt i hlt)
        rw [wideL_length] at h1
        have h2 : 256 ^ i ≤ 256 ^ 4 := Nat.pow_le_pow_right (by decide) (by omega)
        have h3 : (256 : Nat) ^ 4 = 4294967296 := by decide
        omega
      have hd := wide_get_lt hlt i
      have hor := or_byte hV hd
      have hs := valD_wide_succ b i
      have HN := Lib.hid (next_calls (by omega) hlt H4.drew)
      generalize valD (wideL b i) = V at *
      generalize b.getD i 0 = d at *
      have hii : (i : Int) < 4 := by omega
      have hw : IntKind.u64.wrap ((V : Int) * 256) = (V : Int) * 256 := by
        simp only [IntKind.wrap, IntKind.signed, IntKind.bits]
        first | omega | (simp; omega)
      have HS := Lib.hid hs
      clear hs
      go_wp2_with fail
      have c1 := H4.drew.cell 2 rfl
      go_region_with (first | (go_at_call 63; refine HN.out.mono ?_; rintro _ w5 ⟨rfl, H5⟩; have c5 := H5.cell 2 rfl; have f5 := H5.froz 2))
      all_goals (
        have H6 := H5.set 2 (.int .u64 ((V : Int) * 256 + (d : Int)))
        have e6 : ((V : Int) * 256 + (d : Int)) = ((valD (wideL b (i + 1)) : Nat) : Int) := by rw [HS.out]; omega
        rw [e6] at H6 ⊢
        clear c5 f5
        go_wp2_with fail
        go_roundg (4 - (i + 1))
        case rel => exact ⟨i + 1, Lib.hid ⟨by omega, rfl⟩, by go_num, DecAt.shut (v := .slice a b.length c) H6⟩
        case measure => omega)
    · obtain rfl : i = 4 := by omega
      go_wp2_with fail
      go_ret
      exact ⟨_, rfl, q, rfl, Sep.ex_intro qe Hr⟩

end Go.Proofs.Ytglinpclcmmnbaa
