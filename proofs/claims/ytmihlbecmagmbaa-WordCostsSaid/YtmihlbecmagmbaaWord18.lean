/- Law 22: grown. -/
import Derived.Test.YtmihlbecmagmbaaWord17
namespace Go.Proofs.Ytmihlbecmagmbaa
open Go.RowKit Go.Shelf

theorem mod1000 (k : Int) : 0 ≤ wrap64 ((IntKind.u64.wrap k).tmod 1000) ∧ wrap64 ((IntKind.u64.wrap k).tmod 1000) < 1000 := by
  have hu : 0 ≤ IntKind.u64.wrap k := by
    simp only [IntKind.wrap, IntKind.signed, IntKind.bits]
    first | omega | (simp; omega)
  generalize IntKind.u64.wrap k = u at *
  rw [Int.tmod_eq_emod_of_nonneg hu]
  have h1 : 0 ≤ u % 1000 := by omega
  have h2 : u % 1000 < 1000 := by omega
  rw [IntWalk.wrap64_in _ (by omega)]
  omega

set_option maxRecDepth 100000 in
set_option maxHeartbeats 2000000 in
theorem grown_many {v : Value} {xs : List Int} {w : World} (hlen : 60 < xs.length) (hrd : RdS w v xs.length 1 (xs.map iv)) :
    Calls Try.prog 16 #[v] w fun e w' => e = .returned (.tuple #[.string (str []), .int .i64 0]) ∧ w = w' := by
  obtain ⟨va, vc, rfl⟩ := hrd.form
  go_enter Try.func16, Try.ntmps16
  go_wp2_with fail
  go_ret2
  exact ⟨rfl, rfl⟩

set_option maxRecDepth 100000 in
set_option maxHeartbeats 2000000 in
theorem grown_calls {v : Value} {xs : List Int} {R : List HP} {w : World} (hx : ∀ x ∈ xs, -9223372036854775808 ≤ x ∧ x ≤ 9223372036854775807) (hlen : xs.length ≤ 60) (hrd : Reads R v xs.length 1 (xs.map iv)) (H : Sep w R) :
    Calls Try.prog 16 #[v] w (Gives fun r w' => (∃ l : List UInt8, r = .tuple #[.string (str l), .int .i64 1] ∧ rightB l = true ∧ l.length ≤ 2 * xs.length + 1) ∧ Sep w' R) := by
  have HRD := Lib.hid hrd
  have HX := Lib.hid hx
  obtain ⟨va, vc, rfl⟩ := (hrd _ H).form
  clear hrd hx
  go_enter Try.func16, Try.ntmps16
  go_wp2_with ((at_make; go_must (refine wpList_make_sep rfl _ _ 25 rfl 3 (.int .i64 0) 8 Try.underlying25 info_iv rfl H .i64 .i64 xs.length xs.length xs.length rfl rfl rfl rfl (by omega) (by unfold maxLen; omega) ?_); intro ge w2 H4))
  have hz : List.replicate xs.length (Value.int .i64 0) = (List.replicate xs.length (0 : Int)).map iv := by rw [List.map_replicate]; rfl
  rw [hz] at H4
  go_loopg [15] xs.length (fun gk i wr => ∃ (t : Nat) (ys : List Int), Hid (t ≤ xs.length ∧ gk = xs.length - t ∧ ys.length = xs.length) ∧ Hid (∀ y ∈ ys, 0 ≤ y ∧ y < 1000) ∧ i = .int .i64 (t : Int) ∧ Sep wr (HP.row 3 1 (.slice (some ⟨ge, 0, none⟩) xs.length xs.length) xs.length (ys.map iv) :: R))
  case atStart => exact ⟨0, _, Lib.hid ⟨by omega, rfl, List.length_replicate⟩, Lib.hid (fun y hy => by rw [List.eq_of_mem_replicate hy]; omega), rfl, H4⟩
  case round =>
    clear H4 H
    obtain ⟨t, ys, hq, hy, rfl, Hr⟩ := hrel
    obtain ⟨q1, q2, q3⟩ := hq.out
    clear hq
    by_cases c : t < xs.length
    · have hrw := HRD.out _ Hr.tail
      obtain ⟨g2, o2, c2, he⟩ := hrw.open (by omega)
      simp only [Value.slice.injEq, true_and] at he
      obtain ⟨rfl, rfl⟩ := he
      have k0 := hrw.cell t (iv_get c)
      have hkb := HX.out _ (List.getElem_mem c)
      have f1 := Hr.row_froz t
      have c1 := Hr.row_cell t (u := .int .i64 (ys.getD t 0)) (by rw [List.getElem?_map, List.getD, List.getElem?_eq_getElem (by omega)]; rfl)
      generalize xs[t] = kv at *
      clear hrw
      have b1 : (t : Int) < (xs.length : Int) := by omega
      go_wp2_with fail
      have hy0 := mod1000 kv
      have H5 := Hr.row_set t (.int .i64 (wrap64 ((IntKind.u64.wrap kv).tmod 1000)))
      generalize wrap64 ((IntKind.u64.wrap kv).tmod 1000) = y at *
      have hm : (ys.map iv).set t (.int .i64 y) = (ys.set t y).map iv := by rw [List.map_set]; rfl
      rw [hm] at H5
      go_roundg (xs.length - (t + 1))
      case rel => exact ⟨t + 1, ys.set t y, Lib.hid ⟨by omega, rfl, by simp [q3]⟩, Lib.hid (fun z hz => by
        rcases List.mem_or_eq_of_mem_set hz with h | h
        · exact hy.out z h
        · rw [h]; exact hy0), by go_num, H5⟩
      case measure => omega
    · have hrd2 : Reads (HP.row 3 1 (.slice (some ⟨ge, 0, none⟩) xs.length xs.length) xs.length (ys.map iv) :: R) (.slice (some ⟨ge, 0, none⟩) xs.length xs.length) ys.length 1 (ys.map iv) := by rw [q3]; exact Reads.row
      have hgr := rgrow_calls hy.out (by omega) hrd2 Hr
      go_wp2_with fail
      refine hgr.mono ?_
      rintro e w3 ⟨r, rfl, ⟨l, rfl, h1, h2⟩, H3⟩
      have HL := Lib.hid (And.intro h1 h2)
      clear h1 h2
      go_wp2_with fail
      go_ret2
      exact ⟨_, rfl, ⟨l, rfl, HL.out.1, by have := HL.out.2; omega⟩, H3.tail⟩

end Go.Proofs.Ytmihlbecmagmbaa
