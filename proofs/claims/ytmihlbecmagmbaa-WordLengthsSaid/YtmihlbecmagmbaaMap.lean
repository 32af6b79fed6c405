/- A map of bytes to ints, told of my own assertions. -/
import Derived.Test.YtmihlbecmagmbaaSepStep
import Derived.Test.YtmihlbecmagmbaaProg
import Derived.Maps.OwnSet
import Derived.Maps.OwnOps
import Derived.Maps.RangeWalk
namespace Go.Proofs.Ytmihlbecmagmbaa
open Go.RowKit

abbrev MD := DataW Unit
/-- How an int reads. -/
noncomputable def rdI : Value → Option (MD × List MemPlace) := plainElem Try.prog 3
noncomputable def HP.mp (b n : Nat) (D : MD) : HP where
  holds w S := (∀ k, S k ↔ k = b) ∧ w.ownsMap Try.prog 5 rdI b n D
  loc w w' S ha h := ⟨h.1, by
    obtain ⟨es, clock, hb, F, hs, hD⟩ := h.2
    exact ⟨es, clock, (ha.block b ((h.1 b).2 rfl)).trans hb, F, hs, hD⟩⟩
  bnd w S h k hk := by
    obtain rfl := (h.1 k).1 hk
    exact h.2.lt
  ext w S S' he h := ⟨fun k => (he k).symm.trans (h.1 k), h.2⟩
/-- A range over it, under way. -/
noncomputable def HP.rg (b r n : Nat) (D : MD) (left : Lit → Bool) (cnt : Nat) : HP where
  holds w S := (∀ k, S k ↔ k = b ∨ k = r) ∧ w.ranges Try.prog 5 rdI b r n D left cnt
  loc w w' S ha h := ⟨h.1, by
    obtain ⟨es, clock, since, seen, c0, hb, h1, h2, h3, hr, rest⟩ := h.2
    exact ⟨es, clock, since, seen, c0, (ha.block b ((h.1 b).2 (.inl rfl))).trans hb, h1, h2, h3, (ha.block r ((h.1 r).2 (.inr rfl))).trans hr, rest⟩⟩
  bnd w S h k hk := by
    rcases (h.1 k).1 hk with rfl | rfl
    · exact h.2.owns.lt
    · exact h.2.lt
  ext w S S' he h := ⟨fun k => (he k).symm.trans (h.1 k), h.2⟩

theorem Sep.mp_owns {w : World} {b n : Nat} {D : MD} {L : List HP} (h : Sep w (HP.mp b n D :: L)) : w.ownsMap Try.prog 5 rdI b n D := by
  obtain ⟨S, S1, S2, h1, h2, h3, h4⟩ := h; exact h3.2
theorem Sep.rg_ranges {w : World} {b r n : Nat} {D : MD} {left : Lit → Bool} {cnt : Nat} {L : List HP} (h : Sep w (HP.rg b r n D left cnt :: L)) : w.ranges Try.prog 5 rdI b r n D left cnt := by
  obtain ⟨S, S1, S2, h1, h2, h3, h4⟩ := h; exact h3.2
theorem Sep.mp_make {w : World} {L : List HP} (h : Sep w L) : Sep (w.alloc (.map #[] 0)) (HP.mp w.heap.size 0 (.map []) :: L) := by
  refine Sep.upd (L := []) (L' := [HP.mp w.heap.size 0 (.map [])]) (R := L) h rfl rfl rfl (by simp) fun S hS => ⟨fun k hk _ => Below.heap_alloc _ _ _ hk, fun k => k = w.heap.size, ⟨_, fun _ => False, fun k => by simp, fun k _ h => h, ⟨fun k => Iff.rfl, World.ownsMap_made w _ _ _⟩, fun k h => h⟩, fun k hk => .inr (by omega)⟩
theorem Sep.mp_put {w w' : World} {b n n' : Nat} {D D' : MD} {L : List HP} (h : Sep w (HP.mp b n D :: L)) (ho : w'.ownsMap Try.prog 5 rdI b n' D') (hg : w.grownBy w' (some b)) : Sep w' (HP.mp b n' D' :: L) := by
  refine Sep.upd (L := [HP.mp b n D]) (L' := [HP.mp b n' D']) (R := L) h hg.os hg.tape hg.output hg.size fun S hS => ?_
  rw [SepOn.one] at hS
  exact ⟨fun k hk hn => hg.block k hk (fun e => hn ((hS.1 k).2 (by injection e))), S, SepOn.one.2 ⟨hS.1, ho⟩, fun k hk => .inl hk⟩
theorem Sep.rg_start {w w' : World} {b n : Nat} {D : MD} {left : Lit → Bool} {cnt : Nat} {L : List HP} (h : Sep w (HP.mp b n D :: L)) (ho : w'.ranges Try.prog 5 rdI b w.heap.size n D left cnt) (hg : w.grownBy w' none) : Sep w' (HP.rg b w.heap.size n D left cnt :: L) := by
  refine Sep.upd (L := [HP.mp b n D]) (L' := [HP.rg b w.heap.size n D left cnt]) (R := L) h hg.os hg.tape hg.output hg.size fun S hS => ?_
  rw [SepOn.one] at hS
  exact ⟨fun k hk _ => hg.block k hk (by simp), fun k => k = b ∨ k = w.heap.size, SepOn.one.2 ⟨fun k => Iff.rfl, ho⟩, fun k hk => hk.elim (fun e => .inl ((hS.1 k).2 e)) (fun e => .inr (by omega))⟩
theorem Sep.rg_next {w w' : World} {b r n : Nat} {D : MD} {left left' : Lit → Bool} {cnt cnt' : Nat} {L : List HP} (h : Sep w (HP.rg b r n D left cnt :: L)) (ho : w'.ranges Try.prog 5 rdI b r n D left' cnt') (hg : w.grownBy w' (some r)) : Sep w' (HP.rg b r n D left' cnt' :: L) := by
  refine Sep.upd (L := [HP.rg b r n D left cnt]) (L' := [HP.rg b r n D left' cnt']) (R := L) h hg.os hg.tape hg.output hg.size fun S hS => ?_
  rw [SepOn.one] at hS
  exact ⟨fun k hk hn => hg.block k hk (fun e => hn ((hS.1 k).2 (.inr (by injection e)))), S, SepOn.one.2 ⟨hS.1, ho⟩, fun k hk => .inl hk⟩
theorem Sep.rg_end {w : World} {b r n : Nat} {D : MD} {left : Lit → Bool} {cnt : Nat} {L : List HP} (h : Sep w (HP.rg b r n D left cnt :: L)) : Sep w (HP.mp b n D :: L) := by
  obtain ⟨S, S1, S2, h1, h2, h3, h4⟩ := h
  exact ⟨fun k => k = b ∨ S2 k, fun k => k = b, S2, fun k => Iff.rfl, fun k e hk => h2 k ((h3.1 k).2 (.inl e)) hk, ⟨fun k => Iff.rfl, h3.2.owns⟩, h4⟩

end Go.Proofs.Ytmihlbecmagmbaa
