import Derived.Test.YticeolbagfaofaaOrd12
import Derived.Test.YticeolbagfaofaaLaw25f
import Derived.Test.YticeolbagfaofaaRef1d
namespace Go.Proofs.Yticeolbagfaofaa
open Go.RowKit

set_option maxRecDepth 100000 in
set_option maxHeartbeats 4000000 in
theorem law_OrderReads (a : Option Addr) (len cap : Nat) (z : List Int) {w : World} (hrow : IsRow .u8 w a len cap z) (n : Int) (_wn : (Lit.int .i64 n).wf = true) :
    Calls Try.prog 6 #[.slice a len cap, .int .i64 n] w fun e w' => e = .returned (.bool true) ∧ Below w.heap.size w w' := by
  obtain ⟨bs, hbl, hb, hrd⟩ := hrow.bytes
  subst hbl
  clear hrow _wn
  have H := Sep.start w
  have HRD : Hid (Reads [HP.old w.heap.size w] (.slice a bs.length cap) bs.length 1 (bs.map u8v)) := Lib.hid (Reads.old hrd)
  clear hrd
  have HBB := Lib.hid hb
  clear hb
  generalize hB : HP.old w.heap.size w = O at H HRD
  have HB := Lib.hid hB; clear hB
  by_cases hfew : 40 < bs.length
  · go_enter Try.func6, Try.ntmps6
    go_wp2_with fail
    refine (awake25 H).mono ?_
    rintro e w1 ⟨rfl, H1⟩
    go_wp2_with fail
    refine (awake25 H1).mono ?_
    rintro e w2 ⟨rfl, H2⟩
    go_wp2_with fail
    go_ret
    subst HB
    exact ⟨rfl, H2.below⟩
  by_cases hfew2 : 40 < n
  · go_enter Try.func6, Try.ntmps6
    go_wp2_with fail
    refine (awake25 H).mono ?_
    rintro e w1 ⟨rfl, H1⟩
    go_wp2_with fail
    refine (awake25 H1).mono ?_
    rintro e w2 ⟨rfl, H2⟩
    go_wp2_with fail
    go_ret
    subst HB
    exact ⟨rfl, H2.below⟩
  have hal := allBits_length bs
  have hpk := pk_all bs HBB.out
  have hlb : (allBits bs).length ≤ 320 := by omega
  have hNR : ∀ w1, Sep w1 [O] → Calls Try.prog 20 #[.slice a bs.length cap, .int .i64 (8 * (bs.length : Int))] w1 (Gives fun r w' => ∃ b, r = .tuple #[.pointer (some ⟨b, 0, none⟩), .int .i64 0] ∧ Sep w' (Rdr b (allBits bs) 0 :: [O])) := fun w1 h => by
    have e : (8 * (bs.length : Int)) = ((allBits bs).length : Int) := by omega
    rw [e]
    exact nr_ok (by omega) (by rw [hpk]; exact HRD.out _ h) h
  have HNR := Lib.hid hNR
  have HAL := Lib.hid hal
  clear hal hpk hNR
  go_enter Try.func6, Try.ntmps6
  go_wp2_with fail
  refine (awake25 H).mono ?_
  rintro e w1 ⟨rfl, H1⟩
  clear H
  go_wp2_with fail
  refine (HNR.out _ H1).mono ?_
  rintro e w2 ⟨r, rfl, b, rfl, H2⟩
  clear H1
  by_cases hn : n < 0
  · go_wp2_with fail
    refine (decode_range (.inl hn)).mono ?_
    rintro e w3 ⟨rfl, rfl⟩
    go_wp2_with fail
    refine (at_ok H2).mono ?_
    rintro e w4 ⟨rfl, rfl⟩
    go_wp2_with fail
    go_ret
    subst HB
    exact ⟨rfl, H2.tail.below⟩
  obtain ⟨N, rfl⟩ := Int.eq_ofNat_of_zero_le (show 0 ≤ n by omega)
  have hN : N ≤ 40 := by omega
  have hlb2 : (allBits bs).length ≤ 400 := by omega
  have HRC := Lib.hid (fun (w1 : World) (v : Value) (R : List HP) (h : Sep w1 (HP.row 3 1 v (8 * bs.length) ((allBits bs).map bitv) :: R)) => read25_calls (v := v) (bs := allBits bs) hN hlb2 (R := HP.row 3 1 v (8 * bs.length) ((allBits bs).map bitv) :: R) (by rw [HAL.out]; exact Reads.row) h)
  have HDC := Lib.hid (fun (w1 : World) (h : Sep w1 (Rdr b (allBits bs) 0 :: [O])) => decode_calls (n := N) (i := 0) (by omega) (Nat.zero_le _) (by omega) h)
  go_wp2_with fail
  refine (HDC.out _ H2).mono ?_
  rintro e w3 ⟨r, rfl, hpost⟩
  clear H2 HDC
  unfold DecPost at hpost
  rw [List.drop_zero] at hpost
  rcases hpost with ⟨hne, rfl, j, hj, H3⟩ | ⟨he, v3, rfl, hl3, hle3, H3⟩
  · go_wp2_with fail
    refine (all_calls (by omega) HBB.out HRD.out.cons H3).mono ?_
    rintro e w4 ⟨v4, rfl, H4⟩
    clear H3
    go_wp2_with fail
    refine (HRC.out _ _ _ H4).mono ?_
    rintro e w5 ⟨r, rfl, hpost⟩
    unfold ReadPost at hpost
    rcases hpost with ⟨-, rfl, H5⟩ | ⟨he, -⟩
    rotate_left
    · exact absurd he hne
    clear H4 HRC
    have hneI : (((decR N (numsL N) (allBits bs)).2.2 : Int) != 0) = true := by rw [bne_iff_ne]; omega
    generalize (decR N (numsL N) (allBits bs)).2.2 = f at *
    clear hne
    go_wp2_with fail
    refine (ints_same (xs := []) (by decide) ⟨rfl, .inl ⟨rfl, rfl⟩⟩ ⟨rfl, .inl ⟨rfl, rfl⟩⟩).mono ?_
    rintro e w6 ⟨rfl, n6, rfl⟩
    have H6 := H5.drewN n6
    go_wp2_with fail
    go_ret
    subst HB
    exact ⟨rfl, H6.tail.tail.below⟩
  · obtain ⟨a3, c3, rfl⟩ := H3.row_form
    go_wp2_with fail
    refine (all_calls (by omega) HBB.out HRD.out.cons.cons H3).mono ?_
    rintro e w4 ⟨v4, rfl, H4⟩
    clear H3
    go_wp2_with fail
    refine (HRC.out _ _ _ H4).mono ?_
    rintro e w5 ⟨r, rfl, hpost⟩
    unfold ReadPost at hpost
    rcases hpost with ⟨hne, -⟩ | ⟨-, v5, rfl, -, H5⟩
    · exact absurd he hne
    obtain ⟨a5, c5, rfl⟩ := H5.row_form
    clear H4 HRC he
    generalize hD1 : (decR N (numsL N) (allBits bs)).1 = ds at *
    generalize hD2 : (decR N (numsL N) (allBits bs)).2.1 = k at *
    rw [Nat.zero_add] at H5 hle3
    have h1 : RdS w5 (.slice a3 N c3) ds.length 1 (ds.map iv) := by rw [hl3]; exact H5.tail.tail.rd
    have h2 : RdS w5 (.slice a5 N c5) ds.length 1 (ds.map iv) := by rw [hl3]; exact H5.rd
    have h3 : ds.length ≤ 100000 := by omega
    have HI := Lib.hid (ints_same h3 h1 h2)
    clear h1 h2 h3 hl3 hD1 hD2
    go_wp2_with fail
    refine HI.out.mono ?_
    rintro e w6 ⟨rfl, n6, rfl⟩
    have H6 := H5.drewN n6
    generalize w5.drewN n6 = w6 at H6 ⊢
    clear H5
    go_wp2_with fail
    refine (at_ok H6.tail.tail.tail).mono ?_
    rintro e w7 ⟨rfl, rfl⟩
    go_wp2_with fail
    go_ret
    subst HB
    exact ⟨rfl, H6.tail.tail.tail.tail.below⟩

end Go.Proofs.Yticeolbagfaofaa
