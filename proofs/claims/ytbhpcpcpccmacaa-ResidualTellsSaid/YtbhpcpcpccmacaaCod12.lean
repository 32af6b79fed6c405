/- coder, the reference: Bytes. -/
import Derived.Test.YtbhpcpcpccmacaaGI
namespace Go.Proofs.Ytbhpcpcpccmacaa
open Go.RowKit Go.Shelf

theorem upN_le {K L n : Nat} (hn : n ≤ K) (h : L < 256 ^ K) : upN K L n ≤ 256 ^ n := by
  have hp : 0 < 256 ^ (K - n) := Nat.pow_pos (by decide)
  have h2 : 256 ^ K = 256 ^ n * 256 ^ (K - n) := by rw [← Nat.pow_add]; congr 1; omega
  have h3 : L / 256 ^ (K - n) < 256 ^ n := (Nat.div_lt_iff_lt_mul hp).2 (by rw [← h2]; exact h)
  unfold upN
  split <;> omega
theorem wide_val {m K u : Nat} (hm : m ≤ K) (hu : u < 256 ^ m) : valD (wideL (digs m u) K) = u * 256 ^ (K - m) := by
  have e : wideL (digs m u) K = digs m u ++ List.replicate (K - m) 0 := by
    unfold wideL
    rw [List.take_append, digs_length, List.take_of_length_le (by rw [digs_length]; exact hm), List.take_replicate, Nat.min_eq_left (by omega)]
  rw [e, valD_append, List.length_replicate, valD_digs, Nat.mod_eq_of_lt hu, (valD_zero_iff _).2 (fun d hd => (List.mem_replicate.1 hd).2), Nat.add_zero]
theorem inI_iff {k L R m : Nat} (hm : m ≤ k + 4) (hR : 0 < R) (hu : upN (k + 4) L m < 256 ^ m) : InI (k, L, R) (digs m (upN (k + 4) L m)) ↔ OkN (k + 4) L R m := by
  unfold InI
  simp only
  rw [wide_val hm hu]
  have hp : 0 < 256 ^ (k + 4 - m) := Nat.pow_pos (by decide)
  constructor
  · intro ⟨h1, h2⟩
    by_cases h0 : L % 256 ^ (k + 4 - m) = 0
    · exact .inl h0
    · refine .inr ?_
      unfold upN at h2
      rw [if_neg h0, Nat.add_mul, Nat.one_mul] at h2
      have hd := Nat.div_add_mod L (256 ^ (k + 4 - m))
      have hc := Nat.mul_comm (256 ^ (k + 4 - m)) (L / 256 ^ (k + 4 - m))
      omega
  · exact fun h => upN_spec h hR
theorem front_get {m u : Nat} : (digs (1 + m) u)[0]? = some (u / 256 ^ m % 256) := by
  rw [digs_get (by omega)]
  congr 3
  congr 1
  omega

end Go.Proofs.Ytbhpcpcpccmacaa
