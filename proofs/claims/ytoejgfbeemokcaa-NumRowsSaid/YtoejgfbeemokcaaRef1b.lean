import Derived.Test.YtoejgfbeemokcaaRef1
namespace Go.Proofs.Ytoejgfbeemokcaa
open Go.RowKit

/-- Whatever world has the frame R, the slice can be read in it. -/
def Reads (R : List HP) (v : Value) (n size : Nat) (xs : List Value) : Prop := ∀ w, Sep w R → RdS w v n size xs
theorem Reads.row {e : TypeId} {size : Nat} {v : Value} {n : Nat} {xs : List Value} {R : List HP} : Reads (HP.row e size v n xs :: R) v n size xs := fun _ h => h.rd
theorem Reads.cons {v : Value} {n size : Nat} {xs : List Value} {R : List HP} {X : HP} (h : Reads R v n size xs) : Reads (X :: R) v n size xs := fun w hw => h w hw.tail
theorem Reads.perm {v : Value} {n size : Nat} {xs : List Value} {R R' : List HP} (h : Reads R v n size xs) (p : R'.Perm R) : Reads R' v n size xs := fun w hw => h w (hw.perm p)
theorem Reads.old {v : Value} {n size : Nat} {xs : List Value} {w0 : World} {R : List HP} (h : RdS w0 v n size xs) : Reads (HP.old w0.heap.size w0 :: R) v n size xs := fun w hw => by
  refine ⟨h.1, ?_⟩
  rcases h.2 with h | ⟨ad, cap, rfl, hh⟩
  · exact .inl h
  · exact .inr ⟨ad, cap, rfl, fun j u hu => (hw.below.cell (World.block_lt_of_cell? w0 _ (hh j u hu))).trans (hh j u hu)⟩

/-- The first bits of a byte, as the reference adds them up. -/
def partB (l : List Bool) (i : Nat) : Nat → Nat
  | 0 => 0
  | j + 1 => 2 * partB l i j + bit l (i + j)
theorem partB_lt (l : List Bool) (i j : Nat) : partB l i j < 2 ^ j := by
  induction j with
  | zero => simp [partB]
  | succ j ih => rw [partB, Nat.pow_succ]; have := bit_le l (i + j); omega
theorem partB_byte (l : List Bool) (k : Nat) : partB l (8 * k) 8 = byteAt l k := by
  simp only [partB, byteAt, Nat.add_zero]; omega

theorem bit_get (l : List Bool) (i : Nat) (h : i < l.length) : (l.map bitv)[i]? = some (.int .i64 (bit l i : Int)) := by
  simp [bitv, bit, List.getD, List.getElem?_eq_getElem h]

set_option maxHeartbeats 1000000 in
theorem rbytes_calls {v : Value} {l : List Bool} {R : List HP} {w : World} (hl : l.length ≤ 1099511627776) (hrd : Reads R v l.length 1 (l.map bitv)) (H : Sep w R) :
    Calls Try.prog 26 #[v] w (Gives fun r w' => Sep w' (HP.row 5 1 r (pk l).length ((pk l).map u8v) :: R)) := by
  obtain ⟨a, cap, rfl⟩ := (hrd w H).form
  go_enter Try.func26, Try.ntmps26
  go_wp2
  go_loopw [3, 4] (fun o i wr => ∃ k : Nat, 8 * k < l.length + 8 ∧ i = .int .i64 (8 * (k : Int)) ∧ Sep wr (HP.row 5 1 o k ((pkN l k).map u8v) :: R)) (fun _ i _ => l.length + 8 - (intOf i).toNat)
  case atStart => exact ⟨0, by omega, rfl, by simpa [pkN] using H.row_nil _ _⟩
  case round =>
    obtain ⟨k, hk, rfl, Hr⟩ := hrel
    by_cases hlt : 8 * k < l.length
    · obtain ⟨oa, oc, rfl⟩ := Hr.row_form
      have hrw := hrd wr Hr.tail
      go_wp2
      go_loop [5, 6] (fun x j => ∃ q : Nat, q ≤ 8 ∧ j = .int .i64 q ∧ x = .int .i64 (partB l (8 * k) q : Int)) (fun _ j => 8 - (intOf j).toNat)
      case atStart => exact ⟨0, by omega, rfl, rfl⟩
      case round =>
        obtain ⟨q, hq, rfl, rfl⟩ := hrel
        by_cases hq8 : q < 8
        · have hp := partB_lt l (8 * k) q
          have hp2 : 2 ^ q ≤ 2 ^ 8 := Nat.pow_le_pow_right (by decide) hq
          have hpq : partB l (8 * k) q < 256 := by omega
          have hs : partB l (8 * k) (q + 1) = 2 * partB l (8 * k) q + bit l (8 * k + q) := rfl
          have hb := bit_le l (8 * k + q)
          generalize hV : partB l (8 * k) q = V at *
          have HS := Lib.hid hs
          clear hs hp hp2 hV
          by_cases hin : 8 * k + q < l.length
          · obtain ⟨g, o, cap', he⟩ := hrw.open (by omega)
            simp only [Value.slice.injEq, true_and] at he
            obtain ⟨rfl, rfl⟩ := he
            have hc : wr.cell? ⟨g, o + (8 * k + q), none⟩ = some (.int .i64 (bit l (8 * k + q) : Int)) := hrw.cell _ (bit_get l _ hin)
            generalize bit l (8 * k + q) = B at *
            go_wp2
            go_round
            case rel => exact ⟨q + 1, by omega, by go_num, by rw [HS.out]; go_num⟩
            case measure => simp [intOf]; omega
          · have hB : bit l (8 * k + q) = 0 := bit_out _ _ (by omega)
            have HB := Lib.hid hB
            clear hB
            go_wp2
            go_round
            case rel => exact ⟨q + 1, by omega, by go_num, by rw [HS.out, HB.out]; go_num⟩
            case measure => simp [intOf]; omega
        · have hq9 : q = 8 := by omega
          subst hq9
          rw [partB_byte]
          have hb := byteAt_lt l k
          have hmod : (byteAt l k : Int) % 256 = (byteAt l k : Int) := by omega
          have h63 : k + 1 ≤ maxLen := by unfold maxLen; omega
          have hby : (k + 1) * 1 ≤ 140737488355328 := by omega
          go_wp2_with ((at_builtin; go_must (refine wpList_append_one rfl (.tmp 33) (.tmp 36) 24 rfl 5 (.int .u8 0) 1 Try.underlying24 info_u8 rfl _ _ _ (u8v (byteAt l k)) rfl rfl Hr rfl h63 hby ?_); intro g2 cap2 w2 H2))
          go_roundw
          case rel => exact ⟨k + 1, by omega, by go_num, by rw [pkN_succ]; simpa using H2⟩
          case measure => simp [intOf]; omega
    · go_wp2
      go_ret
      have e : k = (pk l).length := by rw [pk_length]; omega
      subst e
      exact ⟨_, rfl, by simpa [pk, pkN_length] using Hr⟩

end Go.Proofs.Ytoejgfbeemokcaa
