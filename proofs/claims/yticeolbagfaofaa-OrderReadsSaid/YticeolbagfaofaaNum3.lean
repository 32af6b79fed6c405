import Derived.Test.YticeolbagfaofaaNum2
import Derived.Test.YticeolbagfaofaaGet
namespace Go.Proofs.Yticeolbagfaofaa
open Go.RowKit

set_option maxHeartbeats 400000 in
theorem fixed_nil (v b : Int) {w : World} : Calls Try.prog 30 #[.pointer none, .int .i64 v, .int .i64 b] w fun e w' => e = .returned (.int .i64 1) ∧ w = w' := by
  go_enter Try.func30, Try.ntmps30
  go_wp2_with fail
  go_ret
  exact ⟨rfl, rfl⟩

set_option maxHeartbeats 400000 in
theorem fixed_range {v b : Int} (h : v < 0 ∨ b ≤ v) (q : Nat) {w : World} : Calls Try.prog 30 #[.pointer (some ⟨q, 0, none⟩), .int .i64 v, .int .i64 b] w fun e w' => e = .returned (.int .i64 2) ∧ w = w' := by
  rcases h with h | h
  · go_enter Try.func30, Try.ntmps30
    go_wp2_with fail
    go_ret
    exact ⟨rfl, rfl⟩
  · by_cases h0 : v < 0
    · go_enter Try.func30, Try.ntmps30
      go_wp2_with fail
      go_ret
      exact ⟨rfl, rfl⟩
    · go_enter Try.func30, Try.ntmps30
      go_wp2_with fail
      go_ret
      exact ⟨rfl, rfl⟩

set_option maxHeartbeats 400000 in
theorem fixed_ok {v b : Int} {q : Nat} {l : List Bool} {R : List HP} {w : World} (hv0 : 0 ≤ v) (hv : v < b) (hb : b ≤ 9223372036854775807) (hl : l.length + widthN b ≤ 33554432) (H : Sep w (Wr q l :: R)) :
    Calls Try.prog 30 #[.pointer (some ⟨q, 0, none⟩), .int .i64 v, .int .i64 b] w fun e w' => e = .returned (.int .i64 0) ∧ Sep w' (Wr q (l ++ valBits v.toNat (widthN b)) :: R) := by
  have hk := widthN_le hb
  have hlt := widthN_lt (v := v.toNat) hb (by omega)
  have hw := width_calls hb (by omega) (w := w)
  generalize widthN b = k at hk hlt hw hl ⊢
  have HLT := Lib.hid hlt
  have HL := Lib.hid hl
  have HW := Lib.hid hw
  have hg : (l.length : Int) + (k : Int) ≤ 33554432 := by omega
  clear hlt hl hw
  go_enter Try.func30, Try.ntmps30
  go_wp2_with fail
  refine (len_calls H).mono ?_
  rintro e w1 ⟨rfl, rfl⟩
  go_wp2_with fail
  refine HW.out.mono ?_
  rintro e w1 ⟨rfl, rfl⟩
  go_wp2_with fail
  refine HW.out.mono ?_
  rintro e w1 ⟨rfl, rfl⟩
  go_wp2_with fail
  refine (put_eq (V := v.toNat) (k := k) (by omega) rfl (by omega) HLT.out HL.out H).mono ?_
  rintro e w2 ⟨rfl, H2⟩
  go_wp2_with fail
  go_ret
  exact ⟨rfl, H2⟩

/-- What Unfixed gives. -/
def unfixOf (l : List Bool) (i : Nat) (b : Int) : Int × Nat × Nat :=
  if b < 1 then (0, 2, i)
  else if l.length < i + widthN b then (0, 4, i)
  else if b ≤ (ofBits ((l.drop i).take (widthN b)) : Int) then (0, 3, i + widthN b)
  else ((ofBits ((l.drop i).take (widthN b)) : Int), 0, i + widthN b)

set_option maxHeartbeats 400000 in
theorem unfixed_nil (b : Int) {w : World} : Calls Try.prog 36 #[.pointer none, .int .i64 b] w fun e w' => e = .returned (.tuple #[.int .i64 0, .int .i64 1]) ∧ w = w' := by
  go_enter Try.func36, Try.ntmps36
  go_wp2_with fail
  go_ret2
  exact ⟨rfl, rfl⟩

set_option maxRecDepth 100000 in
set_option maxHeartbeats 1000000 in
theorem unfixed_all {b : Int} {q i : Nat} {l : List Bool} {R : List HP} {w : World} (hb : b ≤ 9223372036854775807) (hi : i ≤ l.length) (hl : l.length ≤ 33554432) (H : Sep w (Rdr q l i :: R)) :
    Calls Try.prog 36 #[.pointer (some ⟨q, 0, none⟩), .int .i64 b] w fun e w' => e = .returned (.tuple #[.int .i64 (unfixOf l i b).1, .int .i64 ((unfixOf l i b).2.1 : Int)]) ∧ Sep w' (Rdr q l (unfixOf l i b).2.2 :: R) := by
  unfold unfixOf
  by_cases h1 : b < 1
  · rw [if_pos h1]
    go_enter Try.func36, Try.ntmps36
    go_wp2_with fail
    go_ret2
    exact ⟨rfl, H⟩
  rw [if_neg h1]
  have hk := widthN_le hb
  have hw := fun w1 => width_calls hb (by omega) (w := w1)
  have hlt : ∀ m : Nat, (m : Int) < b → m < 2 ^ widthN b := fun m hm => widthN_lt hb hm
  generalize widthN b = k at hk hw hlt ⊢
  have HW := Lib.hid hw
  clear hw hlt
  have h1' : 1 ≤ b := by omega
  by_cases h2 : l.length < i + k
  · rw [if_pos h2]
    have h2' : (l.length : Int) - (i : Int) < (k : Int) := by omega
    clear h1 h2
    go_enter Try.func36, Try.ntmps36
    go_wp2_with fail
    refine (left_ok hi hl H).mono ?_
    rintro e w1 ⟨rfl, n1, rfl⟩
    have H1 := H.drewN n1
    generalize w.drewN n1 = w1 at H1 ⊢
    go_wp2_with fail
    refine (HW.out _).mono ?_
    rintro e w2 ⟨rfl, rfl⟩
    go_wp2_with fail
    go_ret2
    exact ⟨rfl, H1⟩
  rw [if_neg h2]
  have h2' : (k : Int) ≤ (l.length : Int) - (i : Int) := by omega
  have hik : i + k ≤ l.length := by omega
  have hVl := ofBits_lt ((l.drop i).take k)
  rw [List.length_take, List.length_drop, Nat.min_eq_left (by omega)] at hVl
  have hV63 : ofBits ((l.drop i).take k) ≤ 9223372036854775807 := by
    have h63 : (2 : Nat) ^ 63 = 9223372036854775808 := by decide +kernel
    have := Nat.pow_le_pow_right (n := 2) (by decide) hk
    omega
  obtain ⟨V, hV⟩ : ∃ V, V = ofBits ((l.drop i).take k) := ⟨_, rfl⟩
  rw [← hV] at hV63 ⊢
  have hVI : (V : Int) ≤ 9223372036854775807 := by omega
  have HV := Lib.hid hV
  have HIK := Lib.hid hik
  clear h1 h2 hVl hV63 hV hik
  by_cases h3 : b ≤ (V : Int)
  · rw [if_pos h3]
    go_enter Try.func36, Try.ntmps36
    go_wp2_with fail
    refine (left_ok hi hl H).mono ?_
    rintro e w1 ⟨rfl, n1, rfl⟩
    have H1 := H.drewN n1
    generalize w.drewN n1 = w1 at H1 ⊢
    go_wp2_with fail
    refine (HW.out _).mono ?_
    rintro e w2 ⟨rfl, rfl⟩
    go_wp2_with fail
    refine (HW.out _).mono ?_
    rintro e w2 ⟨rfl, rfl⟩
    go_wp2_with fail
    refine (get_ok (by omega) HIK.out hl H1).mono ?_
    rintro e w2 ⟨rfl, H2⟩
    rw [← HV.out]
    go_wp2_with fail
    go_ret2
    exact ⟨rfl, H2⟩
  · rw [if_neg h3]
    have h3' : (V : Int) < b := by omega
    clear h3
    go_enter Try.func36, Try.ntmps36
    go_wp2_with fail
    refine (left_ok hi hl H).mono ?_
    rintro e w1 ⟨rfl, n1, rfl⟩
    have H1 := H.drewN n1
    generalize w.drewN n1 = w1 at H1 ⊢
    go_wp2_with fail
    refine (HW.out _).mono ?_
    rintro e w2 ⟨rfl, rfl⟩
    go_wp2_with fail
    refine (HW.out _).mono ?_
    rintro e w2 ⟨rfl, rfl⟩
    go_wp2_with fail
    refine (get_ok (by omega) HIK.out hl H1).mono ?_
    rintro e w2 ⟨rfl, H2⟩
    rw [← HV.out]
    go_wp2_with fail
    go_ret2
    exact ⟨rfl, H2⟩

end Go.Proofs.Yticeolbagfaofaa
