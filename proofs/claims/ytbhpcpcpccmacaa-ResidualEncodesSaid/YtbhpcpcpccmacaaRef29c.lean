/- reference 29: Bits. -/
import Derived.Test.YtbhpcpcpccmacaaRef29b
namespace Go.Proofs.Ytbhpcpcpccmacaa
open Go.RowKit Go.Shelf

/-- The gamma codes of the numbers that may be. -/
def gB (xs : List Nat) : List Bool := rowG (xs.filter fun x => x ≤ 4194304)
theorem gB_length (xs : List Nat) : (gB xs).length = costN xs := rfl
theorem gB_snoc (xs : List Nat) (x : Nat) : gB (xs ++ [x]) = if x ≤ 4194304 then gB xs ++ longN x else gB xs := by
  unfold gB
  rw [List.filter_append]
  by_cases h : x ≤ 4194304
  · rw [if_pos h, List.filter_cons_of_pos (by simpa using h), List.filter_nil, rowG_snoc]
  · rw [if_neg h, List.filter_cons_of_neg (by simpa using h), List.filter_nil, List.append_nil]
theorem gB_fine {xs : List Nat} (h : Fine xs) : gB xs = rowG xs := by
  unfold gB
  rw [List.filter_eq_self.2 (fun x hx => by simpa using h x hx)]

set_option maxRecDepth 100000 in
set_option maxHeartbeats 8000000 in
theorem rbits29_calls {v : Value} {n : Nat} {xs : List Nat} {F : List HP} {w : World} (hn : n ≤ 10000) (hrd : Reads F v n 3 (xs.map uv)) (H : Sep w F) :
    Calls Try.prog 41 #[v] w (Gives fun r w' => Sep w' (HP.row 3 1 r (gB xs).length ((gB xs).map bitv) :: F)) := by
  obtain ⟨va, vc, rfl⟩ := (hrd w H).form
  have hl : xs.length = n * 3 := by have := (hrd w H).1; rw [List.length_map] at this; exact this
  have HL := Lib.hid hl
  clear hl
  have H1 := H.row_nil 3 1
  go_enter Try.func41, Try.ntmps41
  go_wp2_with fail
  go_loopg [3, 4] n (fun gk u i wr => ∃ (t : Nat) (ua : Option Addr) (uc : Nat), Hid (t ≤ n ∧ gk = n - t) ∧ u = .slice ua (gB (xs.take (t * 3))).length uc ∧ i = .int .i64 (t : Int) ∧ Sep wr (HP.row 3 1 (.slice ua (gB (xs.take (t * 3))).length uc) (gB (xs.take (t * 3))).length ((gB (xs.take (t * 3))).map bitv) :: F))
  case atStart => exact ⟨0, none, 0, Lib.hid ⟨by omega, rfl⟩, by rw [Nat.zero_mul, List.take_zero]; rfl, rfl, by rw [Nat.zero_mul, List.take_zero]; exact H1⟩
  case round =>
    clear H H1
    obtain ⟨t, ua, uc, hq, rfl, rfl, Hr⟩ := hrel
    obtain ⟨q1, q2⟩ := hq.out
    clear hq
    by_cases ht : t < n
    · obtain ⟨g, o, cap, he⟩ := (hrd _ Hr.tail).open (by omega)
      simp only [Value.slice.injEq, true_and] at he
      obtain ⟨rfl, rfl⟩ := he
      obtain ⟨a, b, c, h0, h1, h2, h3, -, -, -⟩ := three_at HL.out ht
      have hti : (t : Int) < (n : Int) := by omega
      have HB3 : Hid (xs.take ((t + 1) * 3) = xs.take (t * 3) ++ [a, b, c]) := Lib.hid (by rw [h3, List.append_assoc, List.append_assoc]; rfl)
      have HCELL : Hid (∀ (k x : Nat), [a, b, c][k]? = some x → ∀ w', Sep w' F → w'.cell? ⟨g, o + t * 3 + k, none⟩ = some (.int .u64 (x : Int))) := Lib.hid fun k x hx w' hs => by
        match k, hx with
        | 0, hx => simp at hx; subst hx; exact (hrd _ hs).three (j := 0) h0
        | 1, hx => simp at hx; subst hx; exact (hrd _ hs).three (j := 1) h1
        | 2, hx => simp at hx; subst hx; exact (hrd _ hs).three (j := 2) h2
      have HLE : Hid (∀ k, (gB (xs.take (t * 3) ++ [a, b, c].take k)).length ≤ 2000000) := Lib.hid fun k => by
        have h4 := costN_le (xs.take (t * 3) ++ [a, b, c].take k)
        have h5 : (xs.take (t * 3) ++ [a, b, c].take k).length ≤ n * 3 + 3 := by
          rw [List.length_append, List.length_take, List.length_take]
          have : [a, b, c].length = 3 := rfl
          omega
        rw [gB_length]
        omega
      clear h0 h1 h2 h3
      generalize xs.take (t * 3) = L0 at *
      go_wp2_with fail
      go_loopg [3, 5] 3 (fun gk u i wr => ∃ (k : Nat) (ua : Option Addr) (uc : Nat), Hid (k ≤ 3 ∧ gk = 3 - k) ∧ u = .slice ua (gB (L0 ++ [a, b, c].take k)).length uc ∧ i = .int .i64 (k : Int) ∧ Sep wr (HP.row 3 1 (.slice ua (gB (L0 ++ [a, b, c].take k)).length uc) (gB (L0 ++ [a, b, c].take k)).length ((gB (L0 ++ [a, b, c].take k)).map bitv) :: F))
      case atStart => exact ⟨0, ua, uc, Lib.hid ⟨by omega, rfl⟩, by rw [List.take_zero, List.append_nil], rfl, by rw [List.take_zero, List.append_nil]; exact Hr⟩
      case round =>
        clear Hr
        obtain ⟨k, ua, uc, hq, rfl, rfl, Hr⟩ := hrel
        obtain ⟨q3, q4⟩ := hq.out
        clear hq
        by_cases hk : k < 3
        · obtain ⟨x, hx, -⟩ := three_get a b c hk
          have kc := HCELL.out k x hx _ Hr.tail
          have HS := Lib.hid (gB_snoc (L0 ++ [a, b, c].take k) x)
          have HNX := Lib.hid (three_next hx L0)
          have hb := HLE.out k
          have hki : (k : Int) < 3 := by omega
          clear hx
          by_cases hx4 : x ≤ 4194304
          · have hxi : (x : Int) ≤ 4194304 := by omega
            have GC := rgamma_calls (u := x) (by omega) Hr
            have hsz := size_fine hx4
            have hll := longN_length x
            have HC : Hid (gB (L0 ++ [a, b, c].take (k + 1)) = gB (L0 ++ [a, b, c].take k) ++ longN x) := Lib.hid (by rw [HNX.out, HS.out, if_pos hx4])
            have HLL := Lib.hid hll
            clear hll
            generalize sizeN x = sz at *
            generalize gB (L0 ++ [a, b, c].take k) = G0 at *
            generalize hgl : gB (L0 ++ [a, b, c].take (k + 1)) = G1 at *
            have HGL := Lib.hid hgl
            clear hgl
            generalize longN x = lx at *
            go_wp2_with fail
            refine GC.mono ?_
            rintro _ w5 ⟨r5, rfl, H5⟩
            obtain ⟨ra, rc, rfl⟩ := H5.row_form
            have hrd5 := H5.rd
            have h63 : G0.length + sz ≤ maxLen := by unfold maxLen; omega
            have hby : (G0.length + sz) * 8 ≤ 140737488355328 := by omega
            clear GC
            go_wp2_with ((at_builtin; go_must (refine wpList_append_src rfl (.tmp 23) (.tmp 30) 40 rfl 3 (.int .i64 0) 1 8 Try.underlying40 info_int rfl (by decide) (.slice ua G0.length uc) G0.length _ rfl H5.swap (.slice ra sz rc) _ _ rfl hrd5 (bitv_one _) h63 hby ?_); intro v7 w7 H7; obtain ⟨va2, vc2, hv7⟩ := H7.row_form; subst hv7))
            have hG1 : G0.length + sz = G1.length := by rw [HC.out, List.length_append, HLL.out]
            have hG1m : G0.map bitv ++ lx.map bitv = G1.map bitv := by rw [HC.out, List.map_append]
            rw [hG1, hG1m] at H7
            have HH := Lib.hid hG1
            clear hG1 hG1m
            rw [HH.out]
            have H8 := H7.swap.tail
            clear H7 H5 hrd5 Hr
            go_wp2_with fail
            go_roundg (3 - (k + 1))
            case rel => exact ⟨k + 1, va2, vc2, Lib.hid ⟨by omega, rfl⟩, by rw [HGL.out], by go_num, by rw [HGL.out]; exact H8⟩
            case measure => omega
          · have hxi : ¬ (x : Int) ≤ 4194304 := by omega
            have HC : Hid (gB (L0 ++ [a, b, c].take (k + 1)) = gB (L0 ++ [a, b, c].take k)) := Lib.hid (by rw [HNX.out, HS.out, if_neg hx4])
            go_wp2_with fail
            go_roundg (3 - (k + 1))
            case rel => exact ⟨k + 1, ua, uc, Lib.hid ⟨by omega, rfl⟩, by rw [HC.out], by go_num, by rw [HC.out]; exact Hr⟩
            case measure => omega
        · obtain rfl : k = 3 := by omega
          have hki : ¬ (3 : Int) < 3 := by omega
          have HL1 : Hid (L0 ++ [a, b, c].take 3 = xs.take ((t + 1) * 3)) := Lib.hid HB3.out.symm
          rw [HL1.out] at Hr ⊢
          go_wp2_with fail
          go_roundg (n - (t + 1))
          case rel => exact ⟨t + 1, ua, uc, Lib.hid ⟨by omega, rfl⟩, rfl, by go_num, Hr⟩
          case measure => omega
    · obtain rfl : t = n := by omega
      have hti : ¬ (t : Int) < (t : Int) := by omega
      rw [List.take_of_length_le (by rw [HL.out]; exact Nat.le_refl _)] at Hr ⊢
      go_wp2_with fail
      go_ret
      exact ⟨_, rfl, Hr⟩

end Go.Proofs.Ytbhpcpcpccmacaa
