/- model: what the laws say of the bytes: plain. -/
import Derived.Test.YtbhpcpcpccmacaaMod8
import Derived.Test.YtbhpcpcpccmacaaMod9
namespace Go.Proofs.Ytbhpcpcpccmacaa
open Go.RowKit Go.Shelf

theorem mrun_turn {n M : Nat} {f : Nat → Nat} (hf : ∀ a, a < M → ∀ b, b < M → f a = f b → a = b) {l : List (Nat × Nat)} (h : ∀ p ∈ l, p.1 < M) :
    (mrun n (l.map fun p => (f p.1, p.2))).1 = (mrun n l).1 ∧ ∀ c, c < M → (mrun n (l.map fun p => (f p.1, p.2))).2 (f c) = (mrun n l).2 c := by
  induction l using rev_ind with
  | h0 => exact ⟨rfl, fun _ _ => rfl⟩
  | h1 l p ih =>
    obtain ⟨a1, a2⟩ := ih (fun q hq => h q (by simp [hq]))
    have hp := h p (by simp)
    rw [List.map_append, List.map_singleton, mrun_snoc, mrun_snoc]
    refine ⟨?_, fun c hc => ?_⟩
    · show stepI (mrun n (l.map _)).1 ((mrun n (l.map _)).2 (f p.1)) p.2 = stepI (mrun n l).1 ((mrun n l).2 p.1) p.2
      rw [a1, a2 _ hp]
    · show (if f c = f p.1 then bumpI ((mrun n (l.map _)).2 (f p.1)) p.2 else (mrun n (l.map _)).2 (f c)) = (if c = p.1 then bumpI ((mrun n l).2 p.1) p.2 else (mrun n l).2 c)
      by_cases e : c = p.1
      · subst e
        rw [if_pos rfl, if_pos rfl, a2 _ hc]
      · rw [if_neg (fun h => e (hf c hc p.1 hp h)), if_neg e, a2 _ hc]
theorem enc_turn {n M : Nat} {f : Nat → Nat} {ss cs : List Nat} (hf : ∀ a, a < M → ∀ b, b < M → f a = f b → a = b) (h : ∀ c ∈ cs, c < M) : encN n ss (cs.map f) = encN n ss cs := by
  have hz : (cs.map f).zip ss = (cs.zip ss).map fun p => (f p.1, p.2) := by
    rw [List.zip_map_left]
    rfl
  unfold encN codedB
  rw [hz, (mrun_turn hf (fun p hp => h p.1 (List.of_mem_zip hp).1)).1]
theorem enc_le (n : Nat) (ss cs : List Nat) : (encN n ss cs).length ≤ 1 + (ss.length * widthN (n : Int) + 7) / 8 := by
  have hp : (plainB n ss).length = 1 + (ss.length * widthN (n : Int) + 7) / 8 := by
    unfold plainB
    rw [List.length_cons, pk_length, rowBits_length]
    omega
  unfold encN
  split
  · omega
  · omega
theorem enc_same {n m s : Nat} (h1 : 2 ≤ n) (h2 : n ≤ 16) (hs : s < n) (hm1 : 800 ≤ m) (hm2 : m ≤ 1055) : (encN n (List.replicate m s) (List.replicate m 0)).length < 1 + (m * widthN (n : Int) + 7) / 8 := by
  have hk := same_short (c := 0) (J := 1055) hs (by omega) hm2 (by omega) (lowS_all n (by omega) h1)
  have hp : (plainB n (List.replicate m s)).length = 1 + (m * widthN (n : Int) + 7) / 8 := by
    unfold plainB
    rw [List.length_cons, pk_length, rowBits_length, List.length_replicate]
    omega
  have hw : 1 ≤ widthN (n : Int) := by
    rcases Nat.eq_zero_or_pos (widthN (n : Int)) with h | h
    · have := (width_least n (by omega) (by omega)).1
      rw [h] at this
      omega
    · exact h
  have hmw : m * 1 ≤ m * widthN (n : Int) := Nat.mul_le_mul_left _ hw
  have hc : (codedB n ((List.replicate m 0).zip (List.replicate m s))).length ≤ 6 := by
    rw [List.zip_replicate']
    have := codeB_len (mrun n (List.replicate m (0, s))).1
    unfold codedB
    rw [List.length_cons]
    omega
  unfold encN
  rw [if_pos (by omega)]
  omega
theorem enc_nil1 : encN 1 [] [] = [0] := by
  unfold encN
  rw [if_neg]
  · rfl
  · show ¬ _ < 1
    unfold codedB
    rw [List.length_cons]
    omega

end Go.Proofs.Ytbhpcpcpccmacaa
