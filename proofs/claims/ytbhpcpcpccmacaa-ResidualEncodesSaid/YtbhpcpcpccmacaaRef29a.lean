/- reference 29: Right. -/
import Derived.Test.YtbhpcpcpccmacaaRes7
namespace Go.Proofs.Ytbhpcpcpccmacaa
open Go.RowKit Go.Shelf

set_option maxRecDepth 100000 in
set_option maxHeartbeats 4000000 in
theorem rright_calls {v : Value} {n : Nat} {xs : List Nat} {w : World} (hn : n ≤ 1000000) (hrd : RdS w v n 3 (xs.map uv)) :
    Calls Try.prog 36 #[v] w fun e w' => e = .returned (.bool (decide (Fine xs ∧ n ≤ 4096))) ∧ w = w' := by
  obtain ⟨va, vc, rfl⟩ := hrd.form
  have hl : xs.length = n * 3 := by have := hrd.1; rw [List.length_map] at this; exact this
  have HL := Lib.hid hl
  clear hl
  obtain ⟨rb, hrb⟩ : ∃ rb, rb = decide (Fine xs ∧ n ≤ 4096) := ⟨_, rfl⟩
  rw [← hrb]
  have HRB := Lib.hid hrb
  clear hrb
  go_enter Try.func36, Try.ntmps36
  go_wp2_with fail
  go_loopg [3] n (fun gk i wr => wr = w ∧ ∃ t : Nat, Hid (t ≤ n ∧ gk = n - t ∧ Fine (xs.take (t * 3))) ∧ i = .int .i64 (t : Int))
  case atStart => exact ⟨rfl, 0, Lib.hid ⟨by omega, rfl, by rw [Nat.zero_mul, List.take_zero]; exact fun x hx => by simp at hx⟩, rfl⟩
  case round =>
    obtain ⟨rfl, t, hq, rfl⟩ := hrel
    obtain ⟨q1, q2, q3⟩ := hq.out
    have Q3 := Lib.hid q3
    clear hq q3
    by_cases ht : t < n
    · obtain ⟨g, o, cap, he⟩ := hrd.open (by omega)
      simp only [Value.slice.injEq, true_and] at he
      obtain ⟨rfl, rfl⟩ := he
      obtain ⟨a, b, c, h0, h1, h2, h3, ma, mb, mc⟩ := three_at HL.out ht
      have hti : (t : Int) < (n : Int) := by omega
      have HB3 : Hid (xs.take ((t + 1) * 3) = xs.take (t * 3) ++ [a, b, c]) := Lib.hid (by rw [h3, List.append_assoc, List.append_assoc]; rfl)
      have HCELL : Hid (∀ (k x : Nat), [a, b, c][k]? = some x → wr.cell? ⟨g, o + t * 3 + k, none⟩ = some (.int .u64 (x : Int)) ∧ x ∈ xs) := Lib.hid fun k x hx => by
        match k, hx with
        | 0, hx => simp at hx; subst hx; exact ⟨hrd.three (j := 0) h0, ma⟩
        | 1, hx => simp at hx; subst hx; exact ⟨hrd.three (j := 1) h1, mb⟩
        | 2, hx => simp at hx; subst hx; exact ⟨hrd.three (j := 2) h2, mc⟩
      clear h0 h1 h2 h3 ma mb mc
      generalize xs.take (t * 3) = L0 at *
      go_wp2_with fail
      go_loopg [4] 3 (fun gk i w2 => w2 = wr ∧ ∃ k : Nat, Hid (k ≤ 3 ∧ gk = 3 - k ∧ Fine (L0 ++ [a, b, c].take k)) ∧ i = .int .i64 (k : Int))
      case atStart => exact ⟨rfl, 0, Lib.hid ⟨by omega, rfl, by rw [List.take_zero, List.append_nil]; exact Q3.out⟩, rfl⟩
      case round =>
        obtain ⟨rfl, k, hq, rfl⟩ := hrel
        obtain ⟨q4, q5, q6⟩ := hq.out
        have Q6 := Lib.hid q6
        clear hq q6
        by_cases hk : k < 3
        · obtain ⟨x, hx, -⟩ := three_get a b c hk
          obtain ⟨kc, hm⟩ := HCELL.out k x hx
          have HM := Lib.hid hm
          have HNX := Lib.hid (three_next hx L0)
          have hki : (k : Int) < 3 := by omega
          clear hx hm
          by_cases hx4 : 4194304 < x
          · have hxi : (4194304 : Int) < (x : Int) := by omega
            have HE : Hid (rb = false) := Lib.hid (by rw [HRB.out]; exact decide_eq_false fun h => by have := h.1 x HM.out; omega)
            go_wp2_with fail
            go_ret
            exact ⟨by rw [HE.out]; rfl, rfl⟩
          · have hxi : ¬ (4194304 : Int) < (x : Int) := by omega
            have HN : Hid (Fine (L0 ++ [a, b, c].take (k + 1))) := Lib.hid (by
              rw [HNX.out]
              intro y hy
              rcases List.mem_append.1 hy with hy | hy
              · exact Q6.out y hy
              · obtain rfl : y = x := by simpa using hy
                omega)
            go_wp2_with fail
            go_roundg (3 - (k + 1))
            case rel => exact ⟨rfl, k + 1, Lib.hid ⟨by omega, rfl, HN.out⟩, by go_num⟩
            case measure => omega
        · obtain rfl : k = 3 := by omega
          have hki : ¬ (3 : Int) < 3 := by omega
          have HN : Hid (Fine (xs.take ((t + 1) * 3))) := Lib.hid (by rw [HB3.out]; exact Q6.out)
          go_wp2_with fail
          go_roundg (n - (t + 1))
          case rel => exact ⟨rfl, t + 1, Lib.hid ⟨by omega, rfl, HN.out⟩, by go_num⟩
          case measure => omega
    · obtain rfl : t = n := by omega
      have hti : ¬ (t : Int) < (t : Int) := by omega
      have hfine := Q3.out
      rw [List.take_of_length_le (by rw [HL.out]; exact Nat.le_refl _)] at hfine
      have HE : Hid (rb = decide (t ≤ 4096)) := Lib.hid (by rw [HRB.out]; exact decide_eq_decide.2 ⟨fun h => h.2, fun h => ⟨hfine, h⟩⟩)
      clear hfine Q3
      by_cases h4 : t ≤ 4096
      · have h4i : (t : Int) ≤ 4096 := by omega
        go_wp2_with fail
        go_ret
        exact ⟨by rw [HE.out, decide_eq_true h4]; rfl, rfl⟩
      · have h4i : ¬ (t : Int) ≤ 4096 := by omega
        go_wp2_with fail
        go_ret
        exact ⟨by rw [HE.out, decide_eq_false h4]; rfl, rfl⟩

end Go.Proofs.Ytbhpcpcpccmacaa
