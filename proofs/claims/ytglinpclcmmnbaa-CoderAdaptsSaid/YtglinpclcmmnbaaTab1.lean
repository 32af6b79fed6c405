/- table: Min, Clone of a slice; the readers of a table. -/
import Derived.Test.YtglinpclcmmnbaaBase
import Derived.Test.YtglinpclcmmnbaaTabPlain
import Derived.Test.YtglinpclcmmnbaaProg
import Derived.Test.YtglinpclcmmnbaaSep
import Derived.Test.YtglinpclcmmnbaaSepLaws
import Derived.WalkKit
import Derived.WalkSpells
import Derived.WalkLawsBesides
import Derived.StillTailTactics
import Derived.BigQuiet
import Derived.Lib.Hide
import Derived.Deep.QuietTactic
import Derived.Deep.DeepFit
import Derived.Deep.DeepCutAuto
namespace Go.Proofs.Ytglinpclcmmnbaa
open Go.RowKit

theorem info_iv : (Try.prog.info? 3).map (fun i => (i.zero, i.size, i.bytes)) = some (some (.int .i64 0), 1, 8) := by kernel_rfl
theorem iv_one (xs : List Int) : ∀ u ∈ xs.map iv, u.oneCell' = true := by
  intro u hu
  simp only [List.mem_map] at hu
  obtain ⟨x, _, rfl⟩ := hu
  rfl
theorem iv_get {xs : List Int} {i : Nat} (h : i < xs.length) : (xs.map iv)[i]? = some (.int .i64 xs[i]) := by
  simp [iv, List.getElem?_eq_getElem h]

/-- A table of counts. -/
def Tbl (b : Nat) (cs : List Int) : HP := HP.ex fun sv => HP.all [HP.pt b #[sv, .int .i64 (isum cs)] 81, HP.row 3 1 sv cs.length (cs.map iv)]
theorem Tbl.open {w : World} {b : Nat} {cs : List Int} {R : List HP} (h : Sep w (Tbl b cs :: R)) :
    ∃ sv, Sep w (HP.pt b #[sv, .int .i64 (isum cs)] 81 :: HP.row 3 1 sv cs.length (cs.map iv) :: R) := by
  obtain ⟨sv, h⟩ := h.ex_elim
  exact ⟨sv, h.all_elim⟩
theorem Tbl.shut {w : World} {b : Nat} {cs : List Int} {sv : Value} {R : List HP} (h : Sep w (HP.pt b #[sv, .int .i64 (isum cs)] 81 :: HP.row 3 1 sv cs.length (cs.map iv) :: R)) : Sep w (Tbl b cs :: R) :=
  Sep.ex_intro sv (Sep.all_intro h)

set_option maxRecDepth 100000 in
set_option maxHeartbeats 1000000 in
theorem symbols_calls {b : Nat} {cs : List Int} {R : List HP} {w : World} (H : Sep w (Tbl b cs :: R)) :
    Calls Try.prog 33 #[.pointer (some ⟨b, 0, none⟩)] w fun e w' => e = .returned (.int .i64 (cs.length : Int)) ∧ w = w' := by
  obtain ⟨sv, H⟩ := Tbl.open H
  have c0 := H.cell 0 rfl
  obtain ⟨a, cap, rfl⟩ := H.tail.row_form
  go_enter Try.func33, Try.ntmps33
  go_wp2_with fail
  go_ret
  exact ⟨rfl, rfl⟩

set_option maxRecDepth 100000 in
set_option maxHeartbeats 1000000 in
theorem total_calls {b : Nat} {cs : List Int} {R : List HP} {w : World} (H : Sep w (Tbl b cs :: R)) :
    Calls Try.prog 30 #[.pointer (some ⟨b, 0, none⟩)] w fun e w' => e = .returned (.int .i64 (isum cs)) ∧ w = w' := by
  obtain ⟨sv, H⟩ := Tbl.open H
  have c1 := H.cell 1 rfl
  go_enter Try.func30, Try.ntmps30
  go_wp2_with fail
  go_ret
  exact ⟨rfl, rfl⟩

set_option maxRecDepth 100000 in
set_option maxHeartbeats 1000000 in
theorem has_calls {b : Nat} {cs : List Int} {i : Int} {R : List HP} {w : World} (H : Sep w (Tbl b cs :: R)) :
    Calls Try.prog 54 #[.pointer (some ⟨b, 0, none⟩), .int .i64 i] w fun e w' => e = .returned (.bool (decide (0 ≤ i ∧ i < cs.length))) ∧ w = w' := by
  by_cases h0 : 0 ≤ i
  · go_enter Try.func54, Try.ntmps54
    go_wp2_with fail
    refine (symbols_calls H).mono ?_
    rintro e w1 ⟨rfl, rfl⟩
    go_wp2_with fail
    go_ret
    exact ⟨by simp [h0], rfl⟩
  · have hd : decide (0 ≤ i ∧ i < cs.length) = false := decide_eq_false (by omega)
    rw [hd]
    go_enter Try.func54, Try.ntmps54
    go_wp2_with fail
    go_ret
    exact ⟨rfl, rfl⟩

/-- The sum of the counts below a symbol; 0 if there is none. -/
def lowI (cs : List Int) (i : Int) : Int := if 0 ≤ i ∧ i < cs.length then isum (cs.take i.toNat) else 0
def countI (cs : List Int) (i : Int) : Int := if 0 ≤ i ∧ i < cs.length then cs.getD i.toNat 0 else 0

set_option maxRecDepth 100000 in
set_option maxHeartbeats 1000000 in
theorem count_calls {b : Nat} {cs : List Int} {i : Int} {R : List HP} {w : World} (H : Sep w (Tbl b cs :: R)) :
    Calls Try.prog 26 #[.pointer (some ⟨b, 0, none⟩), .int .i64 i] w fun e w' => e = .returned (.int .i64 (countI cs i)) ∧ w = w' := by
  by_cases h0 : 0 ≤ i ∧ i < cs.length
  · obtain ⟨k, rfl⟩ := Int.eq_ofNat_of_zero_le h0.1
    have hk : k < cs.length := by omega
    have hd : decide (0 ≤ (k : Int) ∧ (k : Int) < cs.length) = true := decide_eq_true h0
    have hr : countI cs k = cs[k] := by unfold countI; rw [if_pos h0, Int.toNat_natCast, getD_get hk]
    have H0 := H
    obtain ⟨sv, H⟩ := Tbl.open H
    have c0 := H.cell 0 rfl
    obtain ⟨g, cap, cur, rfl, -⟩ := H.tail.row_open (by omega)
    have c1 : w.cell? ⟨g, k, none⟩ = some (.int .i64 cs[k]) := H.tail.row_cell k (iv_get hk)
    rw [hr]
    clear hr h0
    generalize cs[k] = x at c1 ⊢
    go_enter Try.func26, Try.ntmps26
    go_wp2_with fail
    refine (has_calls H0).mono ?_
    rintro e w1 ⟨rfl, rfl⟩
    rw [hd]
    go_wp2_with fail
    go_ret
    exact ⟨rfl, rfl⟩
  · have hd : decide (0 ≤ i ∧ i < cs.length) = false := decide_eq_false h0
    have hr : countI cs i = 0 := by unfold countI; rw [if_neg h0]
    rw [hr]
    go_enter Try.func26, Try.ntmps26
    go_wp2_with fail
    refine (has_calls H).mono ?_
    rintro e w1 ⟨rfl, rfl⟩
    rw [hd]
    go_wp2_with fail
    go_ret
    exact ⟨rfl, rfl⟩

set_option maxRecDepth 100000 in
set_option maxHeartbeats 1000000 in
theorem low_calls {b : Nat} {cs : List Int} {i : Int} {R : List HP} {w : World} (hv : Vt cs) (H : Sep w (Tbl b cs :: R)) :
    Calls Try.prog 24 #[.pointer (some ⟨b, 0, none⟩), .int .i64 i] w fun e w' => e = .returned (.int .i64 (lowI cs i)) ∧ w = w' := by
  by_cases h0 : 0 ≤ i ∧ i < cs.length
  · obtain ⟨k, rfl⟩ := Int.eq_ofNat_of_zero_le h0.1
    have hk : k < cs.length := by omega
    have hd : decide (0 ≤ (k : Int) ∧ (k : Int) < cs.length) = true := decide_eq_true h0
    have hr : lowI cs k = isum (cs.take k) := by unfold lowI; rw [if_pos h0, Int.toNat_natCast]
    have H0 := H
    obtain ⟨sv, H⟩ := Tbl.open H
    have c0 := H.cell 0 rfl
    obtain ⟨g, cap, cur, rfl, hcap⟩ := H.tail.row_open (by omega)
    rw [hr]
    have hlen := hv.2.1
    have HV := Lib.hid hv
    clear hr h0 hv
    go_enter Try.func24, Try.ntmps24
    go_wp2_with fail
    refine (has_calls H0).mono ?_
    rintro e w1 ⟨rfl, rfl⟩
    rw [hd]
    go_wp2_with fail
    go_loopg [5, 7, 19] k (fun gk n _ j wr => wr = w ∧ ∃ t : Nat, Hid (t ≤ k ∧ gk = k - t) ∧ n = .int .i64 (isum (cs.take t)) ∧ j = .int .i64 (t : Int))
    case atStart => exact ⟨rfl, 0, Lib.hid ⟨by omega, rfl⟩, rfl, rfl⟩
    case round =>
      obtain ⟨rfl, t, hq, rfl, rfl⟩ := hrel
      obtain ⟨q1, q2⟩ := hq.out
      by_cases c : t < k
      · have c1 : wr.cell? ⟨g, t, none⟩ = some (.int .i64 cs[t]) := H.tail.row_cell t (iv_get (by omega))
        have hs := isum_take_succ (l := cs) (i := t) (by omega)
        have b1 := isum_take_le HV.out.2.2.1 (t + 1)
        have b2 := isum_take_nonneg HV.out.2.2.1 t
        have b3 := HV.out.2.2.2
        have b4 := HV.out.2.2.1 _ (List.getElem_mem (show t < cs.length by omega))
        generalize isum (cs.take t) = X at *
        generalize cs[t] = x at c1 hs b4
        have HS := Lib.hid hs
        have bx : X + x ≤ 65536 := by omega
        clear hs b1
        go_wp2_with fail
        go_roundg (k - (t + 1))
        case rel => exact ⟨rfl, t + 1, Lib.hid ⟨by omega, rfl⟩, by rw [HS.out], by go_num⟩
        case measure => omega
      · obtain rfl : t = k := by omega
        go_wp2_with fail
        go_ret
        exact ⟨rfl, rfl⟩
  · have hd : decide (0 ≤ i ∧ i < cs.length) = false := decide_eq_false h0
    have hr : lowI cs i = 0 := by unfold lowI; rw [if_neg h0]
    rw [hr]
    go_enter Try.func24, Try.ntmps24
    go_wp2_with fail
    refine (has_calls H).mono ?_
    rintro e w1 ⟨rfl, rfl⟩
    rw [hd]
    go_wp2_with fail
    go_ret
    exact ⟨rfl, rfl⟩

end Go.Proofs.Ytglinpclcmmnbaa
