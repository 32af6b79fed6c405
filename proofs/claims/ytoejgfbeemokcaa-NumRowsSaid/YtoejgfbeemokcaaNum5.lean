import Derived.Test.YtoejgfbeemokcaaNum4
namespace Go.Proofs.Ytoejgfbeemokcaa
open Go.RowKit

theorem binary_int {v n : Int} {V k : Nat} (hv : v = (V : Int)) (hk : n = (k : Int)) (hV : V < 2 ^ 64) (hn : k ≤ 64) {w : World} :
    Calls Try.prog 49 #[.int .u64 v, .int .i64 n] w fun e w' => e = .returned (.string (bitStr (valBits V k))) ∧ w = w' := by
  subst hv; subst hk; exact binary_calls hV hn

set_option maxRecDepth 100000 in
set_option maxHeartbeats 1000000 in
theorem rbits_calls {v : Value} {bs : List Nat} {n : Nat} {w : World} (hb : ∀ x ∈ bs, x < 256) (hn : n ≤ 8 * bs.length) (hn2 : n ≤ 1048576) (hrd : RdS w v bs.length 1 (bs.map u8v)) :
    Calls Try.prog 58 #[v, .int .i64 (n : Int)] w fun e w' => e = .returned (.string (bitStr ((allBits bs).take n))) ∧ w = w' := by
  obtain ⟨a, cap, rfl⟩ := hrd.form
  have HRD := Lib.hid hrd; clear hrd
  have HBB := Lib.hid hb; clear hb
  go_enter Try.func58, Try.ntmps58
  go_wp2
  go_loop [5, 6] (fun s i => ∃ k : Nat, k ≤ n ∧ i = .int .i64 k ∧ s = .string (bitStr ((allBits bs).take k))) (fun _ i => n - (intOf i).toNat)
  case atStart => exact ⟨0, by omega, rfl, rfl⟩
  case round =>
    obtain ⟨k, hk, rfl, rfl⟩ := hrel
    by_cases hlt : k < n
    · have hj : k / 8 < bs.length := by omega
      obtain ⟨g, o, cap', he⟩ := HRD.out.open (by omega)
      simp only [Value.slice.injEq, true_and] at he
      obtain ⟨rfl, rfl⟩ := he
      have hc : w.cell? ⟨g, o + k / 8, none⟩ = some (.int .u8 (bs[k / 8] : Int)) := HRD.out.cell _ (u8v_get _ _ hj)
      have hx : bs[k / 8] < 256 := HBB.out _ (List.getElem_mem hj)
      have hsz : (bitStr ((allBits bs).take k)).size ≤ 1048576 := by rw [bitStr_size, List.length_take]; omega
      have hkl : k < (allBits bs).length := by rw [allBits_length]; omega
      have hs : bitStr ((allBits bs).take (k + 1)) = bitStr ((allBits bs).take k) ++ bitStr (valBits (bs[k / 8] / 2 ^ (7 - k % 8)) 1) := by
        rw [bitStr_append, List.take_succ_eq_append_getElem hkl]
        congr 2
        have hg := allBits_get bs (k / 8) (k % 8) (by omega) hj
        rw [show 8 * (k / 8) + k % 8 = k from by omega, List.getD, List.getElem?_eq_getElem hkl, Option.getD_some] at hg
        rw [hg, valBits_cons, valBits_zero]
        congr 1
        rw [Nat.testBit_eq_decide_div_mod_eq, Nat.testBit_eq_decide_div_mod_eq, Nat.pow_zero, Nat.div_one]
      have hy : bs[k / 8] / 2 ^ (7 - k % 8) < 2 ^ 64 := by
        have := two64
        have := Nat.div_le_self bs[k / 8] (2 ^ (7 - k % 8)); omega
      have hyi : (bs[k / 8] : Int) / 2 ^ (7 - k % 8) = ((bs[k / 8] / 2 ^ (7 - k % 8) : Nat) : Int) := by simp
      have hd0 : (0 : Int) ≤ (k : Int) / 8 := by omega
      have hd1 : (k : Int) / 8 < (bs.length : Int) := by omega
      have hd2 : ((k : Int) / 8).toNat = k / 8 := by omega
      generalize bs[k / 8] / 2 ^ (7 - k % 8) = y at hs hy hyi
      generalize bs[k / 8] = x at *
      have HS := Lib.hid hs
      have HY := Lib.hid hy
      have HYI := Lib.hid hyi
      generalize bitStr ((allBits bs).take k) = q at *
      clear hs hy hyi hkl hj
      go_wp2_with fail
      refine (binary_int (V := y) (k := 1) HYI.out rfl HY.out (by omega)).mono ?_
      rintro e w' ⟨rfl, rfl⟩
      have hsz1 : (bitStr (valBits y 1)).size = 1 := by rw [bitStr_size, valBits_length]
      have hsz2 : (bitStr (valBits y 1)).size ≤ 1 := by omega
      clear hsz1
      generalize bitStr (valBits y 1) = q1 at *
      go_wp2_with fail
      go_round
      case rel => exact ⟨k + 1, by omega, by go_num, by rw [HS.out]⟩
      case measure => simp [intOf]; omega
    · go_wp2
      go_ret
      have e : k = n := by omega
      subst e
      exact ⟨rfl, rfl⟩

set_option maxHeartbeats 1000000 in
/-- 'written': the bits of a writer as a text. -/
theorem written_calls {b : Nat} {l : List Bool} {R : List HP} {w : World} (hl : l.length ≤ 1048576) (H : Sep w (Wr b l :: R)) :
    Calls Try.prog 39 #[.pointer (some ⟨b, 0, none⟩)] w fun e w' => e = .returned (.string (bitStr l)) ∧ Sep w' (Wr b l :: R) := by
  have hpl := pk_length l
  have hq : ((pk l).length : Int) = ((l.length : Int) + 7) / 8 := by omega
  have hne : (((pk l).length : Int) != ((l.length : Int) + 7) / 8) = false := by rw [bne_eq_false_iff_eq]; exact hq
  have hl8 : l.length ≤ 8 * (pk l).length := by omega
  have hap := all_pk l
  have HAP := Lib.hid hap
  have hbb : ∀ x ∈ pk l, x < 256 := by
    intro x hx
    unfold pk pkN at hx
    simp only [List.mem_map, List.mem_range] at hx
    obtain ⟨j, _, rfl⟩ := hx
    exact byteAt_lt l j
  have HBB := Lib.hid hbb
  clear hpl hq hap hbb
  go_enter Try.func39, Try.ntmps39
  go_wp2_with fail
  refine (bytes_ok (by omega) H).mono ?_
  rintro e w1 ⟨r, rfl, H1⟩
  obtain ⟨ra, rc, rfl⟩ := H1.row_form
  go_wp2_with fail
  refine (len_calls H1.tail).mono ?_
  rintro e w2 ⟨rfl, rfl⟩
  go_wp2_with fail
  refine (len_calls H1.tail).mono ?_
  rintro e w2 ⟨rfl, rfl⟩
  go_wp2_with fail
  refine (len_calls H1.tail).mono ?_
  rintro e w2 ⟨rfl, rfl⟩
  go_wp2_with fail
  refine (rbits_calls HBB.out hl8 hl H1.rd).mono ?_
  rintro e w2 ⟨rfl, rfl⟩
  rw [HAP.out]
  go_wp2_with fail
  go_ret
  exact ⟨rfl, H1.tail⟩

end Go.Proofs.Ytoejgfbeemokcaa
