/- reference 29: Class, Gamma. -/
import Derived.Test.YtbhpcpcpccmacaaRes7
namespace Go.Proofs.Ytbhpcpcpccmacaa
open Go.RowKit Go.Shelf

set_option maxRecDepth 100000 in
set_option maxHeartbeats 4000000 in
theorem rclass_calls {u : Nat} {w : World} (hu : u ≤ 8589934592) : Calls Try.prog 37 #[.int .u64 (u : Int)] w fun e w' => e = .returned (.int .i64 (Lib.bitLen u : Int)) ∧ w = w' := by
  have h64 := two64
  obtain ⟨L, hL⟩ : ∃ L, L = Lib.bitLen u := ⟨_, rfl⟩
  rw [← hL]
  have HL := Lib.hid hL
  have hb : L ≤ 64 := by rw [hL]; exact bitLen_le (by omega) (by decide)
  clear hL
  go_enter Try.func37, Try.ntmps37
  go_wp2_with fail
  go_loopg [0, 3] L (fun gk x n wr => wr = w ∧ ∃ y t : Nat, Hid (y ≤ 8589934592 ∧ L = t + Lib.bitLen y ∧ gk = Lib.bitLen y) ∧ x = .int .u64 (y : Int) ∧ n = .int .i64 (t : Int))
  case atStart => exact ⟨rfl, u, 0, Lib.hid ⟨hu, by rw [HL.out]; omega, HL.out⟩, rfl, rfl⟩
  case round =>
    obtain ⟨rfl, y, t, hq, rfl, rfl⟩ := hrel
    obtain ⟨q1, q2, q3⟩ := hq.out
    clear hq
    by_cases hy : y = 0
    · subst hy
      have h0 : Lib.bitLen 0 = 0 := rfl
      rw [h0] at q2
      have HT : Hid (t = L) := Lib.hid (by omega)
      clear q2 q3 h0
      go_wp2_with fail
      go_ret
      exact ⟨by rw [HT.out]; rfl, rfl⟩
    · have hh := Lib.bitLen_half y hy (by omega)
      have hy0 : (0 : Int) < (y : Int) := by omega
      have hd1 : (y : Int).tdiv 2 = ((y / 2 : Nat) : Int) := by rw [Int.tdiv_eq_ediv_of_nonneg (by omega)]; omega
      have hd2 : (y : Int) / 2 = ((y / 2 : Nat) : Int) := by omega
      have hlt : y / 2 ≤ 8589934592 := by omega
      have HQ : Hid (L = (t + 1) + Lib.bitLen (y / 2) ∧ Lib.bitLen (y / 2) < gk ∧ gk = Lib.bitLen (y / 2) + 1) := Lib.hid ⟨by omega, by omega, by omega⟩
      have htb : t ≤ 64 := by omega
      clear q2 q3 hh
      generalize y / 2 = z at *
      go_wp2_with fail
      go_roundg (Lib.bitLen z)
      case rel => exact ⟨rfl, z, t + 1, Lib.hid ⟨hlt, HQ.out.1, rfl⟩, by go_num, by go_num⟩
      case measure => exact HQ.out.2.1

set_option maxRecDepth 100000 in
set_option maxHeartbeats 4000000 in
theorem rgamma_calls {u : Nat} {F : List HP} {w : World} (hu : u ≤ 4294967296) (H : Sep w F) : Calls Try.prog 67 #[.int .u64 (u : Int)] w (Gives fun r w' => Sep w' (HP.row 3 1 r (sizeN u) ((longN u).map bitv) :: F)) := by
  have h64 := two64
  have CC := rclass_calls (u := u + 1) (w := w) (by omega)
  have hbl : Lib.bitLen (u + 1) = halfN u + 1 := by
    have := bitLen_pos (x := u + 1) (by omega) (by omega)
    unfold halfN
    omega
  rw [hbl] at CC
  have hh := halfN_le hu
  have hcast : ((u + 1 : Nat) : Int) = (u : Int) + 1 := by omega
  rw [hcast] at CC
  have hc2 : ((halfN u + 1 : Nat) : Int) = (halfN u : Int) + 1 := by omega
  rw [hc2] at CC
  have HLN : Hid ((longN u).map bitv = (List.replicate (halfN u) false).map bitv ++ (valBits (u + 1) (halfN u + 1)).map bitv) := Lib.hid (by unfold longN; rw [List.map_append])
  have HSZ : Hid (sizeN u = halfN u + (halfN u + 1)) := Lib.hid (by unfold sizeN; omega)
  have hvl : (valBits (u + 1) (halfN u + 1)).length = halfN u + 1 := valBits_length _ _
  have HVC := Lib.hid fun (G : List HP) (w' : World) (hs : Sep w' G) => value_int (v := (u : Int) + 1) (n := (halfN u : Int) + 1) (by omega) (by omega) (by omega) (by omega) hs
  have ht1 : ((u : Int) + 1).toNat = u + 1 := by omega
  have ht2 : ((halfN u : Int) + 1).toNat = halfN u + 1 := by omega
  rw [ht1, ht2] at HVC
  generalize valBits (u + 1) (halfN u + 1) = vb at *
  generalize halfN u = hf at *
  clear hbl ht1 ht2 hcast hc2 h64
  go_enter Try.func67, Try.ntmps67
  go_wp2_with fail
  refine CC.mono ?_
  rintro _ _ ⟨rfl, rfl⟩
  clear CC
  go_wp2_with ((at_make; go_must (refine wpList_make_sep rfl _ _ 40 rfl 3 (.int .i64 0) 8 Try.underlying40 info_iv rfl H .i64 .i64 _ _ hf rfl rfl (by omega) (by omega) (by omega) (by unfold maxLen; omega) ?_); intro g w3 H3))
  have e0 : List.replicate hf (Value.int .i64 0) = (List.replicate hf false).map bitv := by rw [List.map_replicate]; rfl
  rw [e0] at H3
  have VC := HVC.out _ _ H3
  clear e0 H
  go_wp2_with fail
  refine VC.mono ?_
  rintro _ w5 ⟨r5, rfl, H5⟩
  obtain ⟨ra, rc, rfl⟩ := H5.row_form
  have hrd5 := H5.rd
  have h63 : hf + (hf + 1) ≤ maxLen := by unfold maxLen; omega
  have hby : (hf + (hf + 1)) * 8 ≤ 140737488355328 := by omega
  clear VC
  go_wp2_with ((at_builtin; go_must (refine wpList_append_src rfl (.tmp 11) (.tmp 15) 40 rfl 3 (.int .i64 0) 1 8 Try.underlying40 info_int rfl (by decide) (.slice (some ⟨g, 0, none⟩) hf hf) hf _ rfl H5.swap (.slice ra (hf + 1) rc) _ _ rfl hrd5 (bitv_one _) h63 hby ?_); intro v7 w7 H7))
  go_ret
  refine ⟨_, rfl, ?_⟩
  rw [HSZ.out, HLN.out]
  exact H7.swap.tail

end Go.Proofs.Ytbhpcpcpccmacaa
