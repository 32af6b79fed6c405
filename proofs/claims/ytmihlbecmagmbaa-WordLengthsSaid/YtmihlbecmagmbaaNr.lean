import Derived.Test.YtmihlbecmagmbaaFrame
import Derived.Test.YtmihlbecmagmbaaPlain3
namespace Go.Proofs.Ytmihlbecmagmbaa
open Go.RowKit

/-- What NewReader gives. -/
def NrPost (bs : List Nat) (n : Int) (R : List HP) (r : Value) (w' : World) : Prop :=
  ((openBits bs n).1 ≠ 0 ∧ r = .tuple #[.pointer none, .int .i64 ((openBits bs n).1 : Int)] ∧ Sep w' R) ∨
  ∃ b l, openBits bs n = (0, l) ∧ r = .tuple #[.pointer (some ⟨b, 0, none⟩), .int .i64 0] ∧ Sep w' (Rdr b l 0 :: R)

theorem nr_all {v : Value} {bs : List Nat} {n : Int} {R : List HP} {w : World} (hb : ∀ x ∈ bs, x < 256) (hrd : RdS w v bs.length 1 (bs.map u8v)) (H : Sep w R) :
    Calls Try.prog 32 #[v, .int .i64 n] w (Gives (NrPost bs n R)) := by
  by_cases h1 : n < 0 ∨ 33554432 < n
  · have e : openBits bs n = (2, []) := by unfold openBits; rw [if_pos h1]
    refine (nr_range v n h1).mono ?_
    rintro _ _ ⟨rfl, rfl⟩
    exact ⟨_, rfl, .inl ⟨by rw [e]; decide, by rw [e]; rfl, H⟩⟩
  obtain ⟨m, rfl⟩ : ∃ m : Nat, n = m := ⟨n.toNat, by omega⟩
  have hm : m ≤ 33554432 := by omega
  obtain ⟨a, cap, rfl⟩ := hrd.form
  have et : (m : Int).toNat = m := rfl
  by_cases h2 : bs.length < (m + 7) / 8
  · have e : openBits bs m = (4, []) := by unfold openBits; rw [if_neg h1, et, if_pos h2]
    refine (nr_end a cap bs.length m hm h2).mono ?_
    rintro _ _ ⟨rfl, rfl⟩
    exact ⟨_, rfl, .inl ⟨by rw [e]; decide, by rw [e]; rfl, H⟩⟩
  by_cases h3 : (m + 7) / 8 < bs.length
  · have e : openBits bs m = (5, []) := by unfold openBits; rw [if_neg h1, et, if_neg h2, if_pos h3]
    refine (nr_more a cap bs.length m hm h3).mono ?_
    rintro _ _ ⟨rfl, rfl⟩
    exact ⟨_, rfl, .inl ⟨by rw [e]; decide, by rw [e]; rfl, H⟩⟩
  have hlen : bs.length = (m + 7) / 8 := by omega
  by_cases h4 : m % 8 ≠ 0 ∧ bs.getD (m / 8) 0 * 2 ^ (m % 8) % 256 ≠ 0
  · have e : openBits bs m = (3, []) := by unfold openBits; rw [if_neg h1, et, if_neg h2, if_neg h3, if_pos h4]
    have hne : bs.length ≠ 0 := by omega
    obtain ⟨g, o, cap, he⟩ := hrd.open hne
    simp only [Value.slice.injEq, true_and] at he
    obtain ⟨rfl, rfl⟩ := he
    have hj : m / 8 < bs.length := by omega
    have hc := hrd.cell (bs.length - 1) (u := .int .u8 (bs.getD (m / 8) 0 : Int)) (by
      have e : bs.length - 1 = m / 8 := by omega
      rw [e]
      simp [u8v, List.getD, List.getElem?_eq_getElem hj])
    refine (nr_form ⟨g, o, none⟩ _ bs.length m (bs.getD (m / 8) 0) hm hlen h4.1 g o rfl hc ?_).mono ?_
    · rw [bne_iff_ne]
      have e : ((bs.getD (m / 8) 0 : Int) * 2 ^ (m % 8) % 256) = ((bs.getD (m / 8) 0 * 2 ^ (m % 8) % 256 : Nat) : Int) := by rw [Int.natCast_emod, Int.natCast_mul, Int.natCast_pow]; rfl
      rw [e]
      intro h0
      exact h4.2 (by exact_mod_cast h0)
    · rintro _ _ ⟨rfl, rfl⟩
      exact ⟨_, rfl, .inl ⟨by rw [e]; decide, by rw [e]; rfl, H⟩⟩
  · have e : openBits bs m = (0, (allBits bs).take m) := by unfold openBits; rw [if_neg h1, et, if_neg h2, if_neg h3, if_neg h4]
    obtain ⟨_, _, k3, k4, _, _, _⟩ := openBits_ok hb e
    generalize hl : (allBits bs).take m = l at *
    have hml : m = l.length := by omega
    subst k4
    have h := nr_ok (l := l) (by omega) hrd H
    rw [k3] at h
    refine h.mono ?_
    rintro _ _ ⟨v, rfl, b, rfl, H'⟩
    exact ⟨_, rfl, .inr ⟨b, l, e, rfl, H'⟩⟩

end Go.Proofs.Ytmihlbecmagmbaa
