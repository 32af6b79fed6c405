/- residual: Cost. -/
import Derived.Test.YtbhpcpcpccmacaaRes2
namespace Go.Proofs.Ytbhpcpcpccmacaa
open Go.RowKit Go.Shelf

/-- How many bits the numbers have that may be. -/
def costN (xs : List Nat) : Nat := (rowG (xs.filter fun x => x ≤ 4194304)).length
theorem costN_snoc (xs : List Nat) (x : Nat) : costN (xs ++ [x]) = costN xs + if x ≤ 4194304 then sizeN x else 0 := by
  unfold costN
  rw [List.filter_append]
  by_cases h : x ≤ 4194304
  · rw [if_pos h, List.filter_cons_of_pos (by simpa using h), List.filter_nil, rowG_snoc, List.length_append, longN_length]
  · rw [if_neg h, List.filter_cons_of_neg (by simpa using h), List.filter_nil, List.append_nil]
    rfl
theorem costN_le (xs : List Nat) : costN xs ≤ 45 * xs.length := by
  unfold costN
  have h := rowG_le (xs := xs.filter fun x => x ≤ 4194304) (fun x hx => by simpa using (List.mem_filter.1 hx).2)
  have := List.length_filter_le (fun x => decide (x ≤ 4194304)) xs
  omega
/-- The numbers of the element t. -/
theorem three_at {xs : List Nat} {n t : Nat} (hl : xs.length = n * 3) (ht : t < n) : ∃ a b c, xs[t * 3]? = some a ∧ xs[t * 3 + 1]? = some b ∧ xs[t * 3 + 2]? = some c ∧ xs.take ((t + 1) * 3) = xs.take (t * 3) ++ [a] ++ [b] ++ [c] ∧ a ∈ xs ∧ b ∈ xs ∧ c ∈ xs := by
  have h0 : t * 3 < xs.length := by omega
  have h1 : t * 3 + 1 < xs.length := by omega
  have h2 : t * 3 + 2 < xs.length := by omega
  refine ⟨xs[t * 3], xs[t * 3 + 1], xs[t * 3 + 2], List.getElem?_eq_getElem h0, List.getElem?_eq_getElem h1, List.getElem?_eq_getElem h2, ?_, List.getElem_mem _, List.getElem_mem _, List.getElem_mem _⟩
  rw [show (t + 1) * 3 = t * 3 + 1 + 1 + 1 by omega, List.take_succ_eq_append_getElem h2, List.take_succ_eq_append_getElem h1, List.take_succ_eq_append_getElem h0]
theorem RdS.three {w : World} {g o cap n t : Nat} {xs : List Nat} (h : RdS w (.slice (some ⟨g, o, none⟩) n cap) n 3 (xs.map uv)) {j x : Nat} (hx : xs[t * 3 + j]? = some x) : w.cell? ⟨g, o + t * 3 + j, none⟩ = some (.int .u64 (x : Int)) := by
  have := h.cell (t * 3 + j) (uv_at hx)
  rw [show o + t * 3 + j = o + (t * 3 + j) by omega]
  exact this
set_option maxRecDepth 100000 in
theorem idx_three {a b c x : Nat} {k : Nat} (h : [a, b, c][k]? = some x) : ∀ w : World, (Instr.index 29 (.agg #[.int .u64 (a : Int), .int .u64 (b : Int), .int .u64 (c : Int)]) (.int .i64 (k : Int))).run Try.prog w = .ok (.int .u64 (x : Int)) w := by
  match k, h with
  | 0, h => simp at h; subst h; exact fun _ => by kernel_rfl
  | 1, h => simp at h; subst h; exact fun _ => by kernel_rfl
  | 2, h => simp at h; subst h; exact fun _ => by kernel_rfl

theorem three_next {a b c x : Nat} {k : Nat} (h : [a, b, c][k]? = some x) (l : List Nat) : l ++ [a, b, c].take (k + 1) = (l ++ [a, b, c].take k) ++ [x] := by
  obtain ⟨hk, hx⟩ := List.getElem?_eq_some_iff.1 h
  rw [List.take_succ_eq_append_getElem hk, hx, List.append_assoc]
theorem three_get (a b c : Nat) {k : Nat} (hk : k < 3) : ∃ x, [a, b, c][k]? = some x ∧ (x = a ∨ x = b ∨ x = c) := by
  match k, hk with
  | 0, _ => exact ⟨a, rfl, .inl rfl⟩
  | 1, _ => exact ⟨b, rfl, .inr (.inl rfl)⟩
  | 2, _ => exact ⟨c, rfl, .inr (.inr rfl)⟩

set_option maxRecDepth 100000 in
set_option maxHeartbeats 8000000 in
theorem cost_calls {v : Value} {n : Nat} {xs : List Nat} {F : List HP} {w : World} (hn : n ≤ 1000000) (hrd : Reads F v n 3 (xs.map uv)) (H : Sep w F) :
    Calls Try.prog 20 #[v] w fun e w' => e = .returned (.int .i64 (costN xs : Int)) ∧ Sep w' F := by
  obtain ⟨va, vc, rfl⟩ := (hrd w H).form
  have hl : xs.length = n * 3 := by have := (hrd w H).1; rw [List.length_map] at this; exact this
  have HL := Lib.hid hl
  clear hl
  go_enter Try.func20, Try.ntmps20
  go_wp2_with fail
  go_loopg [3, 10] n (fun gk s i wr => ∃ t : Nat, Hid (t ≤ n ∧ gk = n - t) ∧ s = .int .i64 (costN (xs.take (t * 3)) : Int) ∧ i = .int .i64 (t : Int) ∧ Sep wr F)
  case atStart => exact ⟨0, Lib.hid ⟨by omega, rfl⟩, by simp [costN, rowG], rfl, H⟩
  case round =>
    clear H
    obtain ⟨t, hq, rfl, rfl, Hr⟩ := hrel
    obtain ⟨q1, q2⟩ := hq.out
    clear hq
    by_cases ht : t < n
    · obtain ⟨g, o, cap, he⟩ := (hrd _ Hr).open (by omega)
      simp only [Value.slice.injEq, true_and] at he
      obtain ⟨rfl, rfl⟩ := he
      obtain ⟨a, b, c, h0, h1, h2, h3, -, -, -⟩ := three_at HL.out ht
      have k0 := (hrd _ Hr).three (j := 0) h0
      have k1 := (hrd _ Hr).three (j := 1) h1
      have k2 := (hrd _ Hr).three (j := 2) h2
      rw [Nat.add_zero] at k0
      have HT := Lib.hid h3
      have hti : (t : Int) < (n : Int) := by omega
      have HB3 : Hid (xs.take ((t + 1) * 3) = xs.take (t * 3) ++ [a, b, c]) := Lib.hid (by rw [h3, List.append_assoc, List.append_assoc]; rfl)
      have HLE : Hid (∀ k, costN (xs.take (t * 3) ++ [a, b, c].take k) ≤ 200000000) := Lib.hid fun k => by
        have h4 := costN_le (xs.take (t * 3) ++ [a, b, c].take k)
        have h5 : (xs.take (t * 3) ++ [a, b, c].take k).length ≤ n * 3 + 3 := by
          rw [List.length_append, List.length_take, List.length_take]
          have : [a, b, c].length = 3 := rfl
          omega
        omega
      clear h0 h1 h2 h3
      have H2 := Hr.alloc #[.int .u64 (a : Int), .int .u64 (b : Int), .int .u64 (c : Int)] 29
      go_wp2_with fail
      clear k0 k1 k2 HT
      generalize wr.alloc _ = w2 at *
      generalize wr.heap.size = q at *
      generalize xs.take (t * 3) = L0 at *
      go_loopg [3, 15] 3 (fun gk s i wr => ∃ k : Nat, Hid (k ≤ 3 ∧ gk = 3 - k) ∧ s = .int .i64 (costN (L0 ++ [a, b, c].take k) : Int) ∧ i = .int .i64 (k : Int) ∧ Sep wr F)
      case atStart => exact ⟨0, Lib.hid ⟨by omega, rfl⟩, by simp, rfl, H2.tail⟩
      case round =>
        clear H2 Hr
        obtain ⟨k, hq, rfl, rfl, Hr⟩ := hrel
        obtain ⟨q3, q4⟩ := hq.out
        clear hq
        by_cases hk : k < 3
        · obtain ⟨x, hx, -⟩ := three_get a b c hk
          have ik := idx_three hx
          have HS := Lib.hid (costN_snoc (L0 ++ [a, b, c].take k) x)
          have HNX := Lib.hid (three_next hx L0)
          have hb := HLE.out k
          have hki : (k : Int) < 3 := by omega
          generalize L0 ++ [a, b, c].take k = L1 at *
          clear hx
          by_cases hx4 : x ≤ 4194304
          · have hxi : (x : Int) ≤ 4194304 := by omega
            have SZ := size_calls (n := x) (by omega) (w := wr)
            have hsz := size_fine hx4
            have HC : Hid (costN (L1 ++ [x]) = costN L1 + sizeN x) := Lib.hid (by rw [HS.out, if_pos hx4])
            generalize sizeN x = sz at *
            generalize costN L1 = cl at *
            go_wp2_with fail
            refine SZ.mono ?_
            rintro _ _ ⟨rfl, rfl⟩
            clear SZ
            go_wp2_with fail
            go_roundg (3 - (k + 1))
            case rel => exact ⟨k + 1, Lib.hid ⟨by omega, rfl⟩, by rw [HNX.out, HC.out]; go_num, by go_num, Hr⟩
            case measure => omega
          · have hxi : ¬ (x : Int) ≤ 4194304 := by omega
            have HC : Hid (costN (L1 ++ [x]) = costN L1) := Lib.hid (by rw [HS.out, if_neg hx4]; rfl)
            generalize costN L1 = cl at *
            go_wp2_with fail
            go_roundg (3 - (k + 1))
            case rel => exact ⟨k + 1, Lib.hid ⟨by omega, rfl⟩, by rw [HNX.out, HC.out], by go_num, Hr⟩
            case measure => omega
        · obtain rfl : k = 3 := by omega
          have hki : ¬ (3 : Int) < 3 := by omega
          have HL1 : Hid (L0 ++ [a, b, c].take 3 = xs.take ((t + 1) * 3)) := Lib.hid HB3.out.symm
          rw [HL1.out]
          go_wp2_with fail
          go_roundg (n - (t + 1))
          case rel => exact ⟨t + 1, Lib.hid ⟨by omega, rfl⟩, rfl, by go_num, Hr⟩
          case measure => omega
    · obtain rfl : t = n := by omega
      have hti : ¬ (t : Int) < (t : Int) := by omega
      rw [List.take_of_length_le (by rw [HL.out]; exact Nat.le_refl _)]
      go_wp2_with fail
      go_ret
      exact ⟨rfl, Hr⟩

end Go.Proofs.Ytbhpcpcpccmacaa
