/- My own small separation logic over the model's heap: a list of assertions with pairwise disjoint footprints. No program in sight. The kit's laws on append, said of 'Sep'. No program in sight. More laws said of 'Sep': make, a store into an owned row. No program in sight. The append laws as step laws, for regions that draw their order. No program in sight. What can be read in whatever world; slices that came in. Bits as a list of Bool, and their byte form: plain facts, no program in sight. More on bits and bytes: plain. Opening bytes as bits: plain. -/
import Derived.WalkKit
import Derived.WalkSmall
import Derived.Laws.AppendOwnNone
import Derived.Deep.RegionHeld3
import Derived.Deep.RegionHeldLaw
import Derived.Laws.OwnMore
import Derived.OpenShut

namespace Go.Proofs.Ytbhpcpcpccmacaa
open Go.RowKit

/-- w' agrees with w on the blocks of S, and on the streams. -/
structure Agree (w w' : World) (S : Nat → Prop) : Prop where
  os : w'.os = w.os
  tape : w'.tape = w.tape
  output : w'.output = w.output
  size : w.heap.size ≤ w'.heap.size
  block : ∀ k, S k → w'.heap[k]? = w.heap[k]?

theorem Agree.mono {w w' : World} {S S' : Nat → Prop} (h : Agree w w' S) (hs : ∀ k, S' k → S k) : Agree w w' S' :=
  ⟨h.os, h.tape, h.output, h.size, fun k hk => h.block k (hs k hk)⟩
theorem Agree.refl (w : World) (S : Nat → Prop) : Agree w w S := ⟨rfl, rfl, rfl, Nat.le_refl _, fun _ _ => rfl⟩

/-- An assertion on a world and a set of blocks. -/
structure HP where
  holds : World → (Nat → Prop) → Prop
  loc : ∀ w w' S, Agree w w' S → holds w S → holds w' S
  bnd : ∀ w S, holds w S → ∀ k, S k → k < w.heap.size
  ext : ∀ w S S', (∀ k, S k ↔ S' k) → holds w S → holds w S'

def SepOn (w : World) : List HP → (Nat → Prop) → Prop
  | [], S => ∀ k, ¬ S k
  | X :: L, S => ∃ S1 S2, (∀ k, S k ↔ S1 k ∨ S2 k) ∧ (∀ k, S1 k → S2 k → False) ∧ X.holds w S1 ∧ SepOn w L S2

def Sep (w : World) (L : List HP) : Prop := ∃ S, SepOn w L S

theorem SepOn.loc {w w' : World} : ∀ {L : List HP} {S : Nat → Prop}, Agree w w' S → SepOn w L S → SepOn w' L S
  | [], _, _, h => h
  | X :: _, _, ha, ⟨S1, S2, h1, h2, h3, h4⟩ =>
    ⟨S1, S2, h1, h2, X.loc w w' S1 (ha.mono fun k hk => (h1 k).2 (.inl hk)) h3, SepOn.loc (ha.mono fun k hk => (h1 k).2 (.inr hk)) h4⟩

theorem SepOn.bnd {w : World} : ∀ {L : List HP} {S : Nat → Prop}, SepOn w L S → ∀ k, S k → k < w.heap.size
  | [], _, h, k, hk => absurd hk (h k)
  | X :: L, _, ⟨S1, S2, h1, _, h3, h4⟩, k, hk => by
    rcases (h1 k).1 hk with h | h
    · exact X.bnd w S1 h3 k h
    · exact SepOn.bnd h4 k h

theorem SepOn.append {w : World} : ∀ {L R : List HP} {S1 S2 : Nat → Prop}, SepOn w L S1 → SepOn w R S2 → (∀ k, S1 k → S2 k → False) → SepOn w (L ++ R) (fun k => S1 k ∨ S2 k)
  | [], R, S1, S2, h1, h2, _ => by
    have e : (fun k => S1 k ∨ S2 k) = S2 := by funext k; have := h1 k; simp [this]
    rw [e]; exact h2
  | X :: L, R, S1, S2, ⟨A, B, h1, h3, h4, h5⟩, h2, hd =>
    ⟨A, fun k => B k ∨ S2 k, fun k => by show S1 k ∨ S2 k ↔ A k ∨ (B k ∨ S2 k); rw [h1 k, or_assoc], fun k ha hb => by
        rcases hb with hb | hb
        · exact h3 k ha hb
        · exact hd k ((h1 k).2 (.inl ha)) hb, h4, SepOn.append h5 h2 fun k hb => hd k ((h1 k).2 (.inr hb))⟩

theorem SepOn.split {w : World} : ∀ {L R : List HP} {S : Nat → Prop}, SepOn w (L ++ R) S → ∃ S1 S2, (∀ k, S k ↔ S1 k ∨ S2 k) ∧ (∀ k, S1 k → S2 k → False) ∧ SepOn w L S1 ∧ SepOn w R S2
  | [], R, S, h => ⟨fun _ => False, S, fun k => by simp, fun k h => h.elim, fun k h => h, h⟩
  | X :: L, R, S, ⟨A, B, h1, h2, h3, h4⟩ => by
    obtain ⟨C, D, k1, k2, k3, k4⟩ := SepOn.split h4
    refine ⟨fun k => A k ∨ C k, D, fun k => by rw [h1 k, k1 k, or_assoc], fun k ha hb => ?_, ⟨A, C, fun k => Iff.rfl, fun k ha hc => h2 k ha ((k1 k).2 (.inl hc)), h3, k3⟩, k4⟩
    rcases ha with ha | ha
    · exact h2 k ha ((k1 k).2 (.inr hb))
    · exact k2 k ha hb

/-- The one rule of change: what stands ahead of R is changed into L', in its own blocks and in new ones. -/
theorem Sep.upd {w w' : World} {L R L' : List HP} (h : Sep w (L ++ R)) (ho : w'.os = w.os) (ht : w'.tape = w.tape) (hu : w'.output = w.output) (hs : w.heap.size ≤ w'.heap.size)
    (hstep : ∀ S, SepOn w L S → (∀ k, k < w.heap.size → ¬ S k → w'.heap[k]? = w.heap[k]?) ∧ ∃ S', SepOn w' L' S' ∧ ∀ k, S' k → S k ∨ w.heap.size ≤ k) : Sep w' (L' ++ R) := by
  obtain ⟨S, h⟩ := h
  obtain ⟨S1, S2, h1, h2, h3, h4⟩ := h.split
  obtain ⟨f1, S', f2, f3⟩ := hstep S1 h3
  refine ⟨_, f2.append (h4.loc ⟨ho, ht, hu, hs, fun k hk => f1 k (h4.bnd k hk) (fun h => h2 k h hk)⟩) fun k a b => ?_⟩
  rcases f3 k a with h | h
  · exact h2 k h b
  · have := h4.bnd k b; omega

/-- What agrees everywhere keeps all. -/
theorem Sep.same {w w' : World} {L : List HP} (h : Sep w L) (ho : w'.os = w.os) (ht : w'.tape = w.tape) (hu : w'.output = w.output) (hh : w'.heap = w.heap) : Sep w' L := by
  obtain ⟨S, h⟩ := h
  exact ⟨S, h.loc ⟨ho, ht, hu, by rw [hh]; exact Nat.le_refl _, fun k _ => by rw [hh]⟩⟩

theorem Sep.drew {w : World} {L : List HP} (h : Sep w L) : Sep w.drew L := h.same rfl rfl rfl rfl
theorem Sep.drewN {w : World} {L : List HP} (h : Sep w L) (n : Nat) : Sep (w.drewN n) L := h.same rfl rfl rfl rfl

theorem Sep.swap {w : World} {X Y : HP} {L : List HP} (h : Sep w (X :: Y :: L)) : Sep w (Y :: X :: L) := by
  obtain ⟨S, S1, S2, h1, h2, h3, S3, S4, k1, k2, k3, k4⟩ := h
  refine ⟨S, S3, fun k => S1 k ∨ S4 k, fun k => ?_, fun k a b => ?_, k3, S1, S4, fun k => Iff.rfl, fun k a b => h2 k a ((k1 k).2 (.inr b)), h3, k4⟩
  · rw [h1 k, k1 k, or_left_comm]
  · rcases b with b | b
    · exact h2 k b ((k1 k).2 (.inl a))
    · exact k2 k a b

theorem Sep.rot {w : World} {X : HP} {L : List HP} (h : Sep w (X :: L)) : Sep w (L ++ [X]) := by
  obtain ⟨S, S1, S2, h1, h2, h3, h4⟩ := h
  refine ⟨_, SepOn.append h4 (R := [X]) (S2 := S1) ⟨S1, fun _ => False, fun k => by simp, fun k _ h => h, h3, fun k h => h⟩ fun k a b => h2 k b a⟩
theorem Sep.tail {w : World} {X : HP} {L : List HP} (h : Sep w (X :: L)) : Sep w L := by
  obtain ⟨S, S1, S2, _, _, _, h4⟩ := h; exact ⟨S2, h4⟩

theorem Sep.cons_congr {w : World} {X : HP} {L L' : List HP} (h : Sep w (X :: L)) (f : ∀ S, SepOn w L S → SepOn w L' S) : Sep w (X :: L') := by
  obtain ⟨S, S1, S2, h1, h2, h3, h4⟩ := h; exact ⟨S, S1, S2, h1, h2, h3, f _ h4⟩

theorem SepOn.perm {w : World} {L L' : List HP} (p : L.Perm L') : ∀ S, SepOn w L S → SepOn w L' S := by
  induction p with
  | nil => exact fun S h => h
  | cons X _ ih => exact fun S ⟨S1, S2, h1, h2, h3, h4⟩ => ⟨S1, S2, h1, h2, h3, ih _ h4⟩
  | swap X Y L =>
    rintro S ⟨S1, S2, h1, h2, h3, S3, S4, k1, k2, k3, k4⟩
    refine ⟨S3, fun k => S1 k ∨ S4 k, fun k => ?_, fun k a b => ?_, k3, S1, S4, fun k => Iff.rfl, fun k a b => h2 k a ((k1 k).2 (.inr b)), h3, k4⟩
    · rw [h1 k, k1 k, or_left_comm]
    · rcases b with b | b
      · exact h2 k b ((k1 k).2 (.inl a))
      · exact k2 k a b
  | trans _ _ ih1 ih2 => exact fun S h => ih2 _ (ih1 _ h)

theorem Sep.perm {w : World} {L L' : List HP} (h : Sep w L) (p : L.Perm L') : Sep w L' := by
  obtain ⟨S, h⟩ := h; exact ⟨S, SepOn.perm p S h⟩

/-- Bring the third, fourth .. to the front. -/
theorem Sep.rot3 {w : World} {X Y Z : HP} {L : List HP} (h : Sep w (X :: Y :: Z :: L)) : Sep w (Z :: X :: Y :: L) := (h.cons_congr (fun _ => SepOn.perm (.swap Z Y L) _)).swap
theorem Sep.rot4 {w : World} {X Y Z U : HP} {L : List HP} (h : Sep w (X :: Y :: Z :: U :: L)) : Sep w (U :: X :: Y :: Z :: L) :=
  h.perm (((List.Perm.swap U Z L).cons Y |>.trans (.swap U Y (Z :: L)) |>.cons X).trans (.swap U X _))

theorem Sep.mid2 {w : World} {X A B : HP} {L : List HP} (h : Sep w (X :: A :: B :: L)) : Sep w (A :: B :: X :: L) :=
  h.perm ((List.Perm.swap A X _).trans (.cons A (.swap B X L)))
theorem Sep.mid3 {w : World} {X A B C : HP} {L : List HP} (h : Sep w (X :: A :: B :: C :: L)) : Sep w (A :: B :: C :: X :: L) :=
  h.perm ((List.Perm.swap A X _).trans (.cons A ((List.Perm.swap B X _).trans (.cons B (.swap C X L)))))

/-! ## Assertions -/

def HP.pt (b : Nat) (c : Array Value) (T : TypeId) : HP where
  holds w S := (∀ k, S k ↔ k = b) ∧ w.heap[b]? = some (.cells c T (0, 0))
  loc w w' S ha h := ⟨h.1, (ha.block b ((h.1 b).2 rfl)).trans h.2⟩
  bnd w S h k hk := by
    obtain rfl := (h.1 k).1 hk
    exact (Array.getElem?_eq_some_iff.1 h.2).1
  ext w S S' he h := ⟨fun k => (he k).symm.trans (h.1 k), h.2⟩

/-- The old memory: below B all is as in w0. -/
def HP.old (B : Nat) (w0 : World) : HP where
  holds w S := (∀ k, S k ↔ k < B) ∧ Below B w0 w ∧ B ≤ w.heap.size
  loc _w _w' _S ha h := ⟨h.1, ⟨ha.os.trans h.2.1.os, ha.tape.trans h.2.1.tape, ha.output.trans h.2.1.output, Nat.le_trans h.2.1.size ha.size, fun k hk => (ha.block k ((h.1 k).2 hk)).trans (h.2.1.block k hk)⟩, Nat.le_trans h.2.2 ha.size⟩
  bnd _w _S h k hk := Nat.lt_of_lt_of_le ((h.1 k).1 hk) h.2.2
  ext _w _S _S' he h := ⟨fun k => (he k).symm.trans (h.1 k), h.2⟩

/-- A slice that owns its row. -/
def HP.row (e : TypeId) (size : Nat) (v : Value) (n : Nat) (xs : List Value) : HP where
  holds w S := (∀ k, S k ↔ v.ownBlock = some k) ∧ w.ownsRow 0 e size v n xs
  loc w w' S ha h := ⟨h.1, by
    refine ⟨h.2.1, ?_⟩
    rcases h.2.2 with hn | ⟨g, cap, cur, rfl, hb, hgg, rest⟩
    · exact .inl hn
    · exact .inr ⟨g, cap, cur, rfl, hb, (ha.block g ((h.1 g).2 rfl)).trans hgg, rest⟩⟩
  bnd w S h k hk := (h.2.lt k ((h.1 k).1 hk)).2
  ext w S S' he h := ⟨fun k => (he k).symm.trans (h.1 k), h.2⟩

def HP.ex {α : Sort _} (f : α → HP) : HP where
  holds w S := ∃ a, (f a).holds w S
  loc w w' S ha := fun ⟨a, h⟩ => ⟨a, (f a).loc w w' S ha h⟩
  bnd w S := fun ⟨a, h⟩ => (f a).bnd w S h
  ext w S S' he := fun ⟨a, h⟩ => ⟨a, (f a).ext w S S' he h⟩

def HP.pure (p : Prop) : HP where
  holds _ S := (∀ k, ¬ S k) ∧ p
  loc _ _ _ _ h := h
  bnd _ _ h k hk := absurd hk (h.1 k)
  ext _ _ _ he h := ⟨fun k hk => h.1 k ((he k).2 hk), h.2⟩

/-- Several at once. -/
def HP.all (L : List HP) : HP where
  holds w S := SepOn w L S
  loc _ _ _ ha h := h.loc ha
  bnd _ _ h := h.bnd
  ext w _ _ he h := by
    rw [← (funext fun k => propext (he k) : _ = _)]; exact h

theorem Sep.ex_elim {α : Sort _} {w : World} {f : α → HP} {L : List HP} (h : Sep w (HP.ex f :: L)) : ∃ a, Sep w (f a :: L) := by
  obtain ⟨S, S1, S2, h1, h2, ⟨a, h3⟩, h4⟩ := h
  exact ⟨a, S, S1, S2, h1, h2, h3, h4⟩
theorem Sep.ex_intro {α : Sort _} {w : World} {f : α → HP} {L : List HP} (a : α) (h : Sep w (f a :: L)) : Sep w (HP.ex f :: L) := by
  obtain ⟨S, S1, S2, h1, h2, h3, h4⟩ := h
  exact ⟨S, S1, S2, h1, h2, ⟨a, h3⟩, h4⟩
theorem Sep.pure_elim {w : World} {p : Prop} {L : List HP} (h : Sep w (HP.pure p :: L)) : p ∧ Sep w L := by
  obtain ⟨S, S1, S2, h1, h2, h3, h4⟩ := h
  exact ⟨h3.2, S2, h4⟩
theorem Sep.pure_intro {w : World} {p : Prop} {L : List HP} (hp : p) (h : Sep w L) : Sep w (HP.pure p :: L) := by
  obtain ⟨S, h⟩ := h
  exact ⟨S, fun _ => False, S, fun k => by simp, fun k h => h.elim, ⟨fun k h => h, hp⟩, h⟩
theorem Sep.all_elim {w : World} {M L : List HP} (h : Sep w (HP.all M :: L)) : Sep w (M ++ L) := by
  obtain ⟨S, S1, S2, h1, h2, h3, h4⟩ := h
  exact ⟨_, SepOn.append h3 h4 h2⟩
theorem Sep.all_intro {w : World} {M L : List HP} (h : Sep w (M ++ L)) : Sep w (HP.all M :: L) := by
  obtain ⟨S, h⟩ := h
  obtain ⟨S1, S2, h1, h2, h3, h4⟩ := h.split
  exact ⟨S, S1, S2, h1, h2, h3, h4⟩

/-! ## What the walk reads off -/

theorem Sep.heap {w : World} {b : Nat} {c : Array Value} {T : TypeId} {L : List HP} (h : Sep w (HP.pt b c T :: L)) : w.heap[b]? = some (.cells c T (0, 0)) := by
  obtain ⟨S, S1, S2, h1, h2, h3, h4⟩ := h; exact h3.2
theorem Sep.lt {w : World} {b : Nat} {c : Array Value} {T : TypeId} {L : List HP} (h : Sep w (HP.pt b c T :: L)) : b < w.heap.size := (Array.getElem?_eq_some_iff.1 h.heap).1
theorem Sep.cell {w : World} {b : Nat} {c : Array Value} {T : TypeId} {L : List HP} (h : Sep w (HP.pt b c T :: L)) (i : Nat) {v : Value} (hv : c[i]? = some v) : w.cell? ⟨b, i, none⟩ = some v := by
  simp [World.cell?, h.heap, hv]
theorem Sep.froz {w : World} {b : Nat} {c : Array Value} {T : TypeId} {L : List HP} (h : Sep w (HP.pt b c T :: L)) (i : Nat) : w.frozen? ⟨b, i, none⟩ = false := by
  simp [World.frozen?, h.heap]
theorem Sep.ne {w : World} {b g : Nat} {c d : Array Value} {T U : TypeId} {L : List HP} (h : Sep w (HP.pt b c T :: HP.pt g d U :: L)) : b ≠ g := by
  obtain ⟨S, S1, S2, h1, h2, h3, S3, S4, k1, k2, k3, k4⟩ := h
  intro e
  exact h2 b ((h3.1 b).2 rfl) ((k1 b).2 (.inl ((k3.1 b).2 e)))
theorem Sep.below {w : World} {B : Nat} {w0 : World} {L : List HP} (h : Sep w (HP.old B w0 :: L)) : Below B w0 w := by
  obtain ⟨S, S1, S2, h1, h2, h3, h4⟩ := h; exact h3.2.1
theorem Sep.owns {w : World} {e : TypeId} {size : Nat} {v : Value} {n : Nat} {xs : List Value} {L : List HP} (h : Sep w (HP.row e size v n xs :: L)) : w.ownsRow 0 e size v n xs := by
  obtain ⟨S, S1, S2, h1, h2, h3, h4⟩ := h; exact h3.2

/-! ## What the walk does -/

theorem Sep.start (w : World) : Sep w [HP.old w.heap.size w] :=
  ⟨fun k => k < w.heap.size, _, fun _ => False, fun k => by simp, fun k _ h => h, ⟨fun k => Iff.rfl, Below.refl _ _, Nat.le_refl _⟩, fun k h => h⟩

theorem Sep.alloc {w : World} {L : List HP} (h : Sep w L) (c : Array Value) (T : TypeId) : Sep (w.alloc (.cells c T)) (HP.pt w.heap.size c T :: L) := by
  refine Sep.upd (L := []) (L' := [HP.pt w.heap.size c T]) (R := L) h rfl rfl rfl (by simp) fun S hS => ⟨fun k hk _ => Below.heap_alloc _ _ _ hk, fun k => k = w.heap.size, ⟨_, fun _ => False, fun k => by simp, fun k _ h => h, ⟨fun k => Iff.rfl, heap_alloc_new w _⟩, fun k h => h⟩, fun k hk => .inr (by omega)⟩

theorem SepOn.one {w : World} {X : HP} {S : Nat → Prop} : SepOn w [X] S ↔ X.holds w S := by
  constructor
  · rintro ⟨S1, S2, h1, h2, h3, h4⟩
    exact X.ext w S1 S (fun k => ⟨fun h => (h1 k).2 (.inl h), fun h => ((h1 k).1 h).elim id fun h => absurd h (h4 k)⟩) h3
  · exact fun h => ⟨S, fun _ => False, fun k => by simp, fun k _ h => h, h, fun k h => h⟩

theorem Sep.set {w : World} {b : Nat} {c : Array Value} {T : TypeId} {L : List HP} (h : Sep w (HP.pt b c T :: L)) (i : Nat) (v : Value) : Sep (w.setCell ⟨b, i, none⟩ v) (HP.pt b (c.setIfInBounds i v) T :: L) := by
  refine Sep.upd (L := [HP.pt b c T]) (L' := [HP.pt b (c.setIfInBounds i v) T]) (R := L) h rfl rfl rfl (by simp [World.setCell]) fun S hS => ?_
  rw [SepOn.one] at hS
  refine ⟨fun k hk hn => Below.heap_setCell _ _ _ _ (fun e => hn ((hS.1 k).2 e)), S, SepOn.one.2 ⟨hS.1, ?_⟩, fun k hk => .inl hk⟩
  simp [World.setCell, Array.getElem?_modify, hS.2]

/-- Behind a law of the kit's that ends in 'ownsRow' and 'grownBy' (an append, a make). -/
theorem Sep.grown {w w' : World} {e e' : TypeId} {size size' : Nat} {v v' : Value} {n n' : Nat} {xs xs' : List Value} {L : List HP} (h : Sep w (HP.row e size v n xs :: L))
    (ho : w'.ownsRow 0 e' size' v' n' xs') (hg : w.grownBy w' v.ownBlock) (hv : ∀ k, v'.ownBlock = some k → v.ownBlock = some k ∨ w.heap.size ≤ k) : Sep w' (HP.row e' size' v' n' xs' :: L) := by
  refine Sep.upd (L := [HP.row e size v n xs]) (L' := [HP.row e' size' v' n' xs']) (R := L) h hg.os hg.tape hg.output hg.size fun S hS => ?_
  rw [SepOn.one] at hS
  exact ⟨fun k hk hn => hg.block k hk (fun e => hn ((hS.1 k).2 e.symm)), fun k => v'.ownBlock = some k, SepOn.one.2 ⟨fun k => Iff.rfl, ho⟩, fun k hk => (hv k hk).imp (fun h => (hS.1 k).2 h) id⟩

/-- A slice that owns something lies open: its block. -/
theorem Sep.row_open {w : World} {e : TypeId} {size : Nat} {v : Value} {n : Nat} {xs : List Value} {L : List HP} (h : Sep w (HP.row e size v n xs :: L)) (hn : n ≠ 0) :
    ∃ g cap cur, v = .slice (some ⟨g, 0, none⟩) n cap ∧ n ≤ cap ∧ cap ≤ maxLen ∧ cur.size = cap * size ∧ cur.toList.take (n * size) = xs ∧ Sep w (HP.pt g cur e :: L) := by
  obtain ⟨S, S1, S2, h1, h2, ⟨h3, h4⟩, h5⟩ := h
  rcases h4.2 with ⟨_, h0⟩ | ⟨g, cap, cur, rfl, _, hg, hnc, hcm, hcs, htake⟩
  · exact absurd h0 hn
  · exact ⟨g, cap, cur, rfl, hnc, hcm, hcs, htake, S, S1, S2, h1, h2, ⟨fun k => by rw [h3 k]; simp [Value.ownBlock]; exact eq_comm, hg⟩, h5⟩

/-- .. and is shut again. -/
theorem Sep.row_shut {w : World} {e : TypeId} {size : Nat} {g n cap : Nat} {cur : Array Value} {xs : List Value} {L : List HP} (h : Sep w (HP.pt g cur e :: L))
    (hnc : n ≤ cap) (hcm : cap ≤ maxLen) (hcs : cur.size = cap * size) (ht : cur.toList.take (n * size) = xs) : Sep w (HP.row e size (.slice (some ⟨g, 0, none⟩) n cap) n xs :: L) := by
  obtain ⟨S, S1, S2, h1, h2, ⟨h3, h4⟩, h5⟩ := h
  refine ⟨S, S1, S2, h1, h2, ⟨fun k => by rw [h3 k]; simp [Value.ownBlock]; exact eq_comm, ?_, .inr ⟨g, cap, cur, rfl, Nat.zero_le _, h4, hnc, hcm, hcs, ht⟩⟩, h5⟩
  rw [← ht, List.length_take, Array.length_toList, hcs]
  exact Nat.min_eq_left (Nat.mul_le_mul_right _ hnc)

/-- Whatever it owns, it is a slice. -/
theorem Sep.row_form {w : World} {e : TypeId} {size : Nat} {v : Value} {n : Nat} {xs : List Value} {L : List HP} (h : Sep w (HP.row e size v n xs :: L)) : ∃ a cap, v = .slice a n cap := by
  rcases h.owns.2 with ⟨rfl, rfl⟩ | ⟨g, cap, cur, rfl, _⟩
  · exact ⟨_, _, rfl⟩
  · exact ⟨_, _, rfl⟩

theorem Sep.row_length {w : World} {e : TypeId} {size : Nat} {v : Value} {n : Nat} {xs : List Value} {L : List HP} (h : Sep w (HP.row e size v n xs :: L)) : xs.length = n * size := h.owns.1

/-- An element of an owned row of one-cell elements. -/
theorem take_get {cur : Array Value} {n : Nat} {xs : List Value} (ht : cur.toList.take n = xs) {i : Nat} {u : Value} (h : xs[i]? = some u) : cur[i]? = some u := by
  rw [← ht, List.getElem?_take] at h
  split at h
  · simpa using h
  · cases h

#print axioms Sep.grown
end Go.Proofs.Ytbhpcpcpccmacaa

namespace Go.Proofs.Ytbhpcpcpccmacaa
open Go.RowKit

/-- What run_append_own gives, and besides: the new row is the old one or a new one. -/
theorem run_append_sep {P : Program} {w : World} (t ty e : TypeId) (i : TypeInfo) (z : Value) (size bytes : Nat) (ht : P.underlying t = some (.slice e)) (hi : P.info? e = some i) (hz : i.zero = some z)
    (hsize : i.size = size) (hby : i.bytes = bytes) (hzs : z.cells.size = size) (hsz : 0 < size)
    (v : Value) (n : Nat) (xs : List Value) {R : List HP} (H : Sep w (HP.row e size v n xs :: R))
    (a : Addr) (m c : Nat) (news : List Value) (hl : news.length = m * size) (hnews : ∀ j u, news[j]? = some u → w.cell? (a.add j) = some u) (h1 : ∀ u ∈ news, u.oneCell' = true)
    (h63 : n + m ≤ maxLen) (hbytes : (n + m) * bytes ≤ 140737488355328) :
    ∃ v' w', (Builtin.append_ #[t, t] ty #[v, .slice (some a) m c]).run P w = .ok v' w' ∧ Sep w' (HP.row e size v' (n + m) (xs ++ news) :: R) := by
  have hown := H.owns
  obtain ⟨v', w', hr, h2, h3, _⟩ := run_append_own (P := P) w 0 t ty e i z size bytes ht hi hz hsize hby hzs hsz v n xs hown a m c news hl hnews h1 h63 hbytes (Nat.zero_le _)
  refine ⟨v', w', hr, H.grown h2 h3 fun k hk => ?_⟩
  rcases hown.2 with ⟨rfl, rfl⟩ | ⟨g, cap, cur, rfl, hbg, hg, hnc, hcm, hcs, htake⟩
  · have hx : xs = [] := List.eq_nil_of_length_eq_zero (by simpa using hown.1)
    subst hx
    obtain ⟨v2, w2, hr2, g2, _, _⟩ := run_append_own (P := P) w w.heap.size t ty e i z size bytes ht hi hz hsize hby hzs hsz (.slice none 0 0) 0 [] (World.ownsRow_nil _ _ _ _) a m c news hl hnews h1 h63 hbytes (Nat.le_refl _)
    rw [hr] at hr2
    simp only [Result.ok.injEq] at hr2
    obtain ⟨rfl, rfl⟩ := hr2
    exact .inr (g2.lt k hk).1
  · subst hsize
    by_cases hroom : n + m ≤ cap
    · have hfit : n * i.size + news.length ≤ cur.size := by rw [hl, hcs, ← Nat.add_mul]; exact Nat.mul_le_mul_right _ hroom
      have hr2 := run_append_room (P := P) w t ty e i ht hi g n cap cur hg a m c news hl hnews h1 hroom hfit
      rw [hr] at hr2
      simp only [Result.ok.injEq] at hr2
      obtain ⟨rfl, rfl⟩ := hr2
      exact .inl hk
    · subst hby
      have holds : ∀ j u, xs[j]? = some u → w.cell? ((⟨g, 0, none⟩ : Addr).add j) = some u := hown.cells (g := g) rfl
      have hr2 := run_append_grow (P := P) w t ty e i z ht hi hz ⟨g, 0, none⟩ n cap xs hown.1 holds a m c news hl hnews (by omega) (by simp only [maxLen] at h63; omega) (growslice_fits (by omega) hbytes)
      rw [hr] at hr2
      simp only [Result.ok.injEq] at hr2
      obtain ⟨rfl, rfl⟩ := hr2
      simp [Value.ownBlock] at hk
      exact .inr (by omega)

theorem wp_append_sep {P : Program} {w : World} {o : Oper} {a : Act} {K : Act → World → Prop} {Q : Exit → Act → World → Prop} (s x : Operand) (t : TypeId)
    (ho : o.op = .call { callee := .builtin .append, args := #[s, x], argTypes := #[t, t] })
    (e : TypeId) (i : TypeInfo) (z : Value) (size bytes : Nat) (ht : P.underlying t = some (.slice e)) (hi : P.info? e = some i) (hz : i.zero = some z)
    (hsize : i.size = size) (hby : i.bytes = bytes) (hzs : z.cells.size = size) (hsz : 0 < size)
    (v : Value) (n : Nat) (xs : List Value) {R : List HP} (hs : a.eval s = v) (H : Sep w (HP.row e size v n xs :: R))
    (ad : Addr) (m c : Nat) (news : List Value) (hx : a.eval x = .slice (some ad) m c) (hl : news.length = m * size) (hnews : ∀ j u, news[j]? = some u → w.cell? (ad.add j) = some u) (h1 : ∀ u ∈ news, u.oneCell' = true)
    (h63 : n + m ≤ maxLen) (hbytes : (n + m) * bytes ≤ 140737488355328)
    (h : ∀ v' w', Sep w' (HP.row e size v' (n + m) (xs ++ news) :: R) → K (a.put o.dst v') w') : o.wp P a w K Q := by
  obtain ⟨v', w', hr, h2⟩ := run_append_sep (P := P) t o.type e i z size bytes ht hi hz hsize hby hzs hsz v n xs H ad m c news hl hnews h1 h63 hbytes
  unfold Oper.wp execOp
  simp only [ho, resolve, invoke, builtin, Sem.run_bind, Sem.run_pure, Result.andThen_ok, List.map_toArray, List.map_cons, List.map_nil, hs, hx, hr]
  exact h v' w' h2

theorem wpList_append_sep {P : Program} {w : World} {ops : Array Oper} {rest : List Oper} {o : Oper} {a : Act} {Q : Exit → Act → World → Prop} (hgd : o.guard = none) (s x : Operand) (t : TypeId)
    (ho : o.op = .call { callee := .builtin .append, args := #[s, x], argTypes := #[t, t] })
    (e : TypeId) (i : TypeInfo) (z : Value) (size bytes : Nat) (ht : P.underlying t = some (.slice e)) (hi : P.info? e = some i) (hz : i.zero = some z)
    (hsize : i.size = size) (hby : i.bytes = bytes) (hzs : z.cells.size = size) (hsz : 0 < size)
    (v : Value) (n : Nat) (xs : List Value) {R : List HP} (hs : a.eval s = v) (H : Sep w (HP.row e size v n xs :: R))
    (ad : Addr) (m c : Nat) (news : List Value) (hx : a.eval x = .slice (some ad) m c) (hl : news.length = m * size) (hnews : ∀ j u, news[j]? = some u → w.cell? (ad.add j) = some u) (h1 : ∀ u ∈ news, u.oneCell' = true)
    (h63 : n + m ≤ maxLen) (hbytes : (n + m) * bytes ≤ 140737488355328)
    (h : ∀ v' w', Sep w' (HP.row e size v' (n + m) (xs ++ news) :: R) → wpList P ops Q rest (a.put o.dst v') w') : wpList P ops Q (o :: rest) a w :=
  wpList_plain hgd fun _ hK => wp_append_sep s x t ho e i z size bytes ht hi hz hsize hby hzs hsz v n xs hs H ad m c news hx hl hnews h1 h63 hbytes fun v' w' h2 => hK _ _ (h v' w' h2)

/-- One element: the slice literal's own block, as the walk lays it. -/
theorem wpList_append_one {P : Program} {w : World} {ops : Array Oper} {rest : List Oper} {o : Oper} {a : Act} {Q : Exit → Act → World → Prop} (hgd : o.guard = none) (s x : Operand) (t : TypeId)
    (ho : o.op = .call { callee := .builtin .append, args := #[s, x], argTypes := #[t, t] })
    (e : TypeId) (z : Value) (bytes : Nat) (ht : P.underlying t = some (.slice e)) (hinfo : (P.info? e).map (fun i => (i.zero, i.size, i.bytes)) = some (some z, 1, bytes)) (hzs : z.cells.size = 1)
    (v : Value) (n : Nat) (xs : List Value) {R : List HP} (u : Value) (h1 : u.oneCell' = true) (hs : a.eval s = v) (H : Sep w (HP.row e 1 v n xs :: R))
    (hx : a.eval x = .slice (some ⟨w.heap.size, 0, none⟩) 1 1) (h63 : n + 1 ≤ maxLen) (hbytes : (n + 1) * bytes ≤ 140737488355328)
    (h : ∀ g cap w', Sep w' (HP.row e 1 (.slice (some ⟨g, 0, none⟩) (n + 1) cap) (n + 1) (xs ++ [u]) :: R) → wpList P ops Q rest (a.put o.dst (.slice (some ⟨g, 0, none⟩) (n + 1) cap)) w') : wpList P ops Q (o :: rest) a (w.alloc (.cells #[u] e)) := by
  obtain ⟨i, hi, hz, hs1, hb⟩ := info_parts hinfo
  have H' : Sep (w.alloc (.cells #[u] e)) (HP.row e 1 v n xs :: HP.pt w.heap.size #[u] e :: R) := (H.alloc #[u] e).swap
  refine wpList_append_sep hgd s x t ho e i z 1 bytes ht hi hz hs1 hb hzs (by decide) v n xs hs H' ⟨w.heap.size, 0, none⟩ 1 1 [u] hx rfl ?_ ?_ h63 hbytes fun v' w' h2 => ?_
  · intro j y hj
    match j, hj with
    | 0, hj =>
      simp at hj; subst hj
      exact H'.swap.cell 0 rfl
  · intro y hy; simp at hy; subst hy; exact h1
  · have h3 := (h2.swap).tail
    obtain ⟨g, cap, _, rfl, _⟩ := h3.row_open (by omega)
    exact h g cap w' h3

/-- A slice whose elements can be read: n elements of 'size' cells each, all cells in one row. -/
def RdS (w : World) (v : Value) (n size : Nat) (xs : List Value) : Prop :=
  xs.length = n * size ∧ ((v = .slice none 0 0 ∧ n = 0) ∨ ∃ ad cap, v = .slice (some ad) n cap ∧ ∀ j u, xs[j]? = some u → w.cell? (ad.add j) = some u)

theorem addr_add (g o j : Nat) : (⟨g, o, none⟩ : Addr).add j = ⟨g, o + j, none⟩ := by
  unfold Addr.add; split <;> simp_all

theorem Sep.rd {w : World} {e : TypeId} {size : Nat} {v : Value} {n : Nat} {xs : List Value} {L : List HP} (h : Sep w (HP.row e size v n xs :: L)) : RdS w v n size xs := by
  refine ⟨h.row_length, ?_⟩
  rcases h.owns.2 with ⟨rfl, rfl⟩ | ⟨g, cap, cur, rfl, _⟩
  · exact .inl ⟨rfl, rfl⟩
  · exact .inr ⟨⟨g, 0, none⟩, cap, rfl, fun j u hu => h.owns.cells (g := g) rfl j u hu⟩

theorem RdS.form {w : World} {v : Value} {n size : Nat} {xs : List Value} (h : RdS w v n size xs) : ∃ a cap, v = .slice a n cap := by
  rcases h.2 with ⟨rfl, rfl⟩ | ⟨ad, cap, rfl, _⟩
  · exact ⟨_, _, rfl⟩
  · exact ⟨_, _, rfl⟩

/-- Behind nothing that touches its cells. -/
theorem RdS.mono {w w' : World} {v : Value} {n size : Nat} {xs : List Value} (h : RdS w v n size xs) (hc : ∀ (a : Addr) (u : Value), w.cell? a = some u → w'.cell? a = some u) : RdS w' v n size xs := by
  refine ⟨h.1, ?_⟩
  rcases h.2 with h | ⟨ad, cap, rfl, hh⟩
  · exact .inl h
  · exact .inr ⟨ad, cap, rfl, fun j u hu => hc _ _ (hh j u hu)⟩

theorem RdS.drew {w : World} {v : Value} {n size : Nat} {xs : List Value} (h : RdS w v n size xs) : RdS w.drew v n size xs := h
theorem RdS.drewN {w : World} {v : Value} {n size : Nat} {xs : List Value} (h : RdS w v n size xs) (k : Nat) : RdS (w.drewN k) v n size xs := h

theorem Sep.row_nil {w : World} {L : List HP} (h : Sep w L) (e : TypeId) (size : Nat) : Sep w (HP.row e size (.slice none 0 0) 0 [] :: L) := by
  obtain ⟨S, h⟩ := h
  exact ⟨S, fun _ => False, S, fun k => by simp, fun k h => h.elim, ⟨fun k => by simp [Value.ownBlock], World.ownsRow_nil _ _ _ _⟩, h⟩

/-- 'append(dst, src...)', whatever the source: nil or not, empty or not. -/
theorem wpList_append_src {P : Program} {w : World} {ops : Array Oper} {rest : List Oper} {o : Oper} {a : Act} {Q : Exit → Act → World → Prop} (hgd : o.guard = none) (s x : Operand) (t : TypeId)
    (ho : o.op = .call { callee := .builtin .append, args := #[s, x], argTypes := #[t, t] })
    (e : TypeId) (z : Value) (size bytes : Nat) (ht : P.underlying t = some (.slice e)) (hinfo : (P.info? e).map (fun i => (i.zero, i.size, i.bytes)) = some (some z, size, bytes)) (hzs : z.cells.size = size) (hsz : 0 < size)
    (v : Value) (n : Nat) (xs : List Value) {R : List HP} (hs : a.eval s = v) (H : Sep w (HP.row e size v n xs :: R))
    (sv : Value) (m : Nat) (news : List Value) (hx : a.eval x = sv) (hrd : RdS w sv m size news) (h1 : ∀ u ∈ news, u.oneCell' = true)
    (h63 : n + m ≤ maxLen) (hbytes : (n + m) * bytes ≤ 140737488355328)
    (h : ∀ v' w', Sep w' (HP.row e size v' (n + m) (xs ++ news) :: R) → wpList P ops Q rest (a.put o.dst v') w') : wpList P ops Q (o :: rest) a w := by
  obtain ⟨i, hi, hz, hs1, hb⟩ := info_parts hinfo
  rcases hrd.2 with ⟨rfl, rfl⟩ | ⟨ad, cap, rfl, hh⟩
  · have hn : news = [] := List.eq_nil_of_length_eq_zero (by simpa using hrd.1)
    subst hn
    refine wpList_append_own_none hgd s x t ho 0 e i size ht hi v n xs hs H.owns hx ?_
    refine h v w ?_
    simpa using H
  · exact wpList_append_sep hgd s x t ho e i z size bytes ht hi hz hs1 hb hzs hsz v n xs hs H ad m cap news hx hrd.1 hh h1 h63 hbytes h

/-- 'append([]T(nil), src...)'. -/
theorem wpList_append_copy {P : Program} {w : World} {ops : Array Oper} {rest : List Oper} {o : Oper} {a : Act} {Q : Exit → Act → World → Prop} (hgd : o.guard = none) (s x : Operand) (t : TypeId)
    (ho : o.op = .call { callee := .builtin .append, args := #[s, x], argTypes := #[t, t] })
    (e : TypeId) (z : Value) (size bytes : Nat) (ht : P.underlying t = some (.slice e)) (hinfo : (P.info? e).map (fun i => (i.zero, i.size, i.bytes)) = some (some z, size, bytes)) (hzs : z.cells.size = size) (hsz : 0 < size)
    {R : List HP} (hs : a.eval s = .slice none 0 0) (H : Sep w R)
    (sv : Value) (m : Nat) (news : List Value) (hx : a.eval x = sv) (hrd : RdS w sv m size news) (h1 : ∀ u ∈ news, u.oneCell' = true)
    (h63 : m ≤ maxLen) (hbytes : m * bytes ≤ 140737488355328)
    (h : ∀ b cap w', Sep w' (HP.row e size (.slice b m cap) m news :: R) → wpList P ops Q rest (a.put o.dst (.slice b m cap)) w') : wpList P ops Q (o :: rest) a w :=
  wpList_append_src hgd s x t ho e z size bytes ht hinfo hzs hsz (.slice none 0 0) 0 [] hs (H.row_nil e size) sv m news hx hrd h1 (by omega) (by rw [Nat.zero_add]; exact hbytes) fun v' w' H' => by
    rw [Nat.zero_add, List.nil_append] at H'
    obtain ⟨b, cap, rfl⟩ := H'.row_form
    exact h b cap w' H'

#print axioms wpList_append_src
end Go.Proofs.Ytbhpcpcpccmacaa

namespace Go.Proofs.Ytbhpcpcpccmacaa
open Go.RowKit

theorem madeCells_one (z : Value) (n : Nat) : (madeCells #[z] (n * 1)).toList = List.replicate n z := by
  apply List.ext_getElem?
  intro i
  simp only [madeCells, Nat.mul_one]
  by_cases h : i < n
  · have e : i % 1 = 0 := by omega
    simp [h, e]
  · simp [h]

theorem wpList_make_sep {P : Program} {w : World} {ops : Array Oper} {rest : List Oper} {o : Oper} {a : Act} {Q : Exit → Act → World → Prop}
    (hg : o.guard = none) (l c : Operand) (t : TypeId) (hop : o.op = Op.makeSlice t l c)
    (e : TypeId) (z : Value) (bytes : Nat) (ht : P.underlying t = some (.slice e)) (hinfo : (P.info? e).map (fun i => (i.zero, i.size, i.bytes)) = some (some z, 1, bytes)) (hz : z.cells = #[z])
    {R : List HP} (H : Sep w R)
    (kl kc : IntKind) (L C : Int) (n : Nat) (hl : a.eval l = .int kl L) (hc : a.eval c = .int kc C) (hL : L = (n : Int)) (hC : C = (n : Int)) (b2 : bytes * n ≤ 281474976710656) (b3 : n ≤ maxLen)
    (hK : ∀ g w', Sep w' (HP.row e 1 (.slice (some ⟨g, 0, none⟩) n n) n (List.replicate n z) :: R) → wpList P ops Q rest (a.put o.dst (.slice (some ⟨g, 0, none⟩) n n)) w') :
    wpList P ops Q (o :: rest) a w := by
  obtain ⟨i, hi, hz2, hs, hb⟩ := info_parts hinfo
  subst hb
  refine wpList_make_full w hg l c t hop w.heap.size e i z 1 ht hi hz2 hs kl kc L C n hl hc hL hC b2 b3 (Nat.le_refl _) fun w' h1 h2 => hK _ w' ?_
  rw [hz, madeCells_one] at h1
  have h1' : w'.ownsRow 0 e 1 (.slice (some ⟨w.heap.size, 0, none⟩) n n) n (List.replicate n z) := by
    obtain ⟨k1, k2⟩ := h1
    refine ⟨k1, ?_⟩
    rcases k2 with k2 | ⟨g, cap, cur, k3, k4, k5⟩
    · exact .inl k2
    · exact .inr ⟨g, cap, cur, k3, Nat.zero_le _, k5⟩
  exact Sep.grown (H.row_nil e 1) h1' (by simpa [Value.ownBlock] using h2) fun k hk => .inr (by simp [Value.ownBlock] at hk; omega)

/-- The cells of an owned row of one-cell elements, for the walk. -/
theorem Sep.row_cell {w : World} {e : TypeId} {g n cap : Nat} {xs : List Value} {L : List HP} (h : Sep w (HP.row e 1 (.slice (some ⟨g, 0, none⟩) n cap) n xs :: L)) (i : Nat) {u : Value} (hu : xs[i]? = some u) : w.cell? ⟨g, i, none⟩ = some u := by
  have := h.owns.cells (g := g) rfl i u hu
  rwa [addr_add, Nat.zero_add] at this

theorem Sep.row_froz {w : World} {e : TypeId} {size : Nat} {g n cap : Nat} {xs : List Value} {L : List HP} (h : Sep w (HP.row e size (.slice (some ⟨g, 0, none⟩) n cap) n xs :: L)) (i : Nat) : w.frozen? ⟨g, i, none⟩ = false := by
  rcases h.owns.2 with ⟨h0, _⟩ | ⟨g', cap', cur, h1, _, h3, _⟩
  · cases h0
  · simp only [Value.slice.injEq, Option.some.injEq, Addr.mk.injEq] at h1
    obtain ⟨⟨rfl, _, _⟩, _, _⟩ := h1
    simp [World.frozen?, h3]

/-- A store into an owned row. -/
theorem Sep.row_set {w : World} {e : TypeId} {g n cap : Nat} {xs : List Value} {L : List HP} (h : Sep w (HP.row e 1 (.slice (some ⟨g, 0, none⟩) n cap) n xs :: L)) (i : Nat) (u : Value) :
    Sep (w.setCell ⟨g, i, none⟩ u) (HP.row e 1 (.slice (some ⟨g, 0, none⟩) n cap) n (xs.set i u) :: L) := by
  by_cases hn : n = 0
  · subst hn
    have hx : xs = [] := List.eq_nil_of_length_eq_zero (by simpa using h.row_length)
    subst hx
    refine Sep.upd (L := [HP.row e 1 (.slice (some ⟨g, 0, none⟩) 0 cap) 0 []]) (L' := [HP.row e 1 (.slice (some ⟨g, 0, none⟩) 0 cap) 0 []]) (R := L) h rfl rfl rfl (by simp [World.setCell]) fun S hS => ?_
    rw [SepOn.one] at hS
    refine ⟨fun k hk hn => Below.heap_setCell _ _ _ _ (fun e => hn ((hS.1 k).2 (by simp [Value.ownBlock, e]))), S, SepOn.one.2 ⟨hS.1, hS.2.1, ?_⟩, fun k hk => .inl hk⟩
    rcases hS.2.2 with ⟨h0, _⟩ | ⟨g', cap', cur, h1, h2, h3, h4, h5, h6, h7⟩
    · cases h0
    · simp only [Value.slice.injEq, Option.some.injEq, Addr.mk.injEq, and_true, true_and] at h1
      obtain ⟨rfl, rfl⟩ := h1
      exact .inr ⟨g, cap, cur.setIfInBounds i u, rfl, h2, by simp [World.setCell, Array.getElem?_modify, h3], h4, h5, by simpa using h6, by simp⟩
  · obtain ⟨g', cap', cur, he, h1, h2, h3, h4, h5⟩ := h.row_open hn
    simp only [Value.slice.injEq, Option.some.injEq, Addr.mk.injEq, and_true, true_and] at he
    obtain ⟨rfl, rfl⟩ := he
    refine Sep.row_shut (h5.set i u) h1 h2 (by simpa using h3) ?_
    rw [← h4, Array.toList_setIfInBounds, List.take_set]

/-- A readable slice that has an element is not nil, and its address is a cell's. -/
theorem RdS.open {w : World} {v : Value} {n size : Nat} {xs : List Value} (h : RdS w v n size xs) (hn : n ≠ 0) (hs : 0 < size := by decide) : ∃ g o cap, v = .slice (some ⟨g, o, none⟩) n cap := by
  rcases h.2 with ⟨_, h0⟩ | ⟨ad, cap, he, hh⟩
  · exact absurd h0 hn
  · have hl : 0 < xs.length := by rw [h.1]; exact Nat.mul_pos (Nat.pos_of_ne_zero hn) hs
    have hc := hh 0 xs[0] (List.getElem?_eq_getElem hl)
    obtain ⟨g, o, sp⟩ := ad
    have e0 : (⟨g, o, sp⟩ : Addr).add 0 = ⟨g, o, sp⟩ := rfl
    rw [e0] at hc
    cases sp with
    | none => exact ⟨g, o, cap, he⟩
    | some s =>
      exfalso
      unfold World.cell? at hc
      split at hc
      · simp at hc
      · cases hc

/-- The elements of a slice, read-only, cell by cell. -/
theorem RdS.cell {w : World} {g o cap n size : Nat} {xs : List Value} (h : RdS w (.slice (some ⟨g, o, none⟩) n cap) n size xs) (i : Nat) {u : Value} (hu : xs[i]? = some u) : w.cell? ⟨g, o + i, none⟩ = some u := by
  rcases h.2 with ⟨h0, _⟩ | ⟨ad, cap', he, hh⟩
  · cases h0
  · simp only [Value.slice.injEq, Option.some.injEq, true_and] at he
    obtain ⟨rfl, rfl⟩ := he
    have := hh i u hu
    rwa [addr_add] at this

#print axioms Sep.row_set
end Go.Proofs.Ytbhpcpcpccmacaa

namespace Go.Proofs.Ytbhpcpcpccmacaa
open Go.RowKit

theorem wp_append_src {P : Program} {w : World} {o : Oper} {a : Act} {K : Act → World → Prop} {Q : Exit → Act → World → Prop} (s x : Operand) (t : TypeId)
    (ho : o.op = .call { callee := .builtin .append, args := #[s, x], argTypes := #[t, t] })
    (e : TypeId) (z : Value) (size bytes : Nat) (ht : P.underlying t = some (.slice e)) (hinfo : (P.info? e).map (fun i => (i.zero, i.size, i.bytes)) = some (some z, size, bytes)) (hzs : z.cells.size = size) (hsz : 0 < size)
    (v : Value) (n : Nat) (xs : List Value) {R : List HP} (hs : a.eval s = v) (H : Sep w (HP.row e size v n xs :: R))
    (sv : Value) (m : Nat) (news : List Value) (hx : a.eval x = sv) (hrd : RdS w sv m size news) (h1 : ∀ u ∈ news, u.oneCell' = true)
    (h63 : n + m ≤ maxLen) (hbytes : (n + m) * bytes ≤ 140737488355328)
    (h : ∀ b c w', Sep w' (HP.row e size (.slice b (n + m) c) (n + m) (xs ++ news) :: R) → K (a.put o.dst (.slice b (n + m) c)) w') : o.wp P a w K Q := by
  obtain ⟨i, hi, hz, hs1, hb⟩ := info_parts hinfo
  rcases hrd.2 with ⟨rfl, rfl⟩ | ⟨ad, cap, rfl, hh⟩
  · have hn : news = [] := List.eq_nil_of_length_eq_zero (by simpa using hrd.1)
    subst hn
    have hrun := run_append_owned_none (P := P) (w := w) 0 t o.type e i size ht hi v n xs H.owns
    obtain ⟨b, c, rfl⟩ := H.row_form
    unfold Oper.wp
    simp [execOp, ho, resolve, invoke, builtin, hs, hx, hrun, Result.andThen]
    exact h b c w (by simpa using H)
  · exact wp_append_sep s x t ho e i z size bytes ht hi hz hs1 hb hzs hsz v n xs hs H ad m cap news hx hrd.1 hh h1 h63 hbytes fun v' w' h2 => by
      obtain ⟨b, c, rfl⟩ := h2.row_form
      exact h b c w' h2

theorem step_append_src {P : Program} {w : World} {ops : Array Oper} {o : Oper} {a : Act} {K : Act → World → Prop} {Q : Exit → Act → World → Prop} {E : Prop} (hgd : o.guard = none) (s x : Operand) (t : TypeId)
    (ho : o.op = .call { callee := .builtin .append, args := #[s, x], argTypes := #[t, t] })
    (e : TypeId) (z : Value) (size bytes : Nat) (ht : P.underlying t = some (.slice e)) (hinfo : (P.info? e).map (fun i => (i.zero, i.size, i.bytes)) = some (some z, size, bytes)) (hzs : z.cells.size = size) (hsz : 0 < size)
    (v : Value) (n : Nat) (xs : List Value) {R : List HP} (hs : a.eval s = v) (H : Sep w (HP.row e size v n xs :: R))
    (sv : Value) (m : Nat) (news : List Value) (hx : a.eval x = sv) (hrd : RdS w sv m size news) (h1 : ∀ u ∈ news, u.oneCell' = true)
    (h63 : n + m ≤ maxLen) (hbytes : (n + m) * bytes ≤ 140737488355328)
    (h : ∀ b c w', Sep w' (HP.row e size (.slice b (n + m) c) (n + m) (xs ++ news) :: R) → K (a.put o.dst (.slice b (n + m) c)) w') :
    if Region.wanted o (yielded ops a.tmps) = true then Oper.wp P o a w K Q else E := by
  have hw : Region.wanted o (yielded ops a.tmps) = true := by simp [Region.wanted, hgd]
  rw [if_pos hw]
  exact wp_append_src s x t ho e z size bytes ht hinfo hzs hsz v n xs hs H sv m news hx hrd h1 h63 hbytes h

#print axioms step_append_src
end Go.Proofs.Ytbhpcpcpccmacaa

namespace Go.Proofs.Ytbhpcpcpccmacaa
open Go.RowKit

/-- A call gives a value, and a world, of which something holds. -/
def Gives (f : Value → World → Prop) (e : Ending) (w' : World) : Prop := ∃ v, e = .returned v ∧ f v w'

/-- Whatever world has the frame R, the slice can be read in it. -/
def Reads (R : List HP) (v : Value) (n size : Nat) (xs : List Value) : Prop := ∀ w, Sep w R → RdS w v n size xs
theorem Reads.row {e : TypeId} {size : Nat} {v : Value} {n : Nat} {xs : List Value} {R : List HP} : Reads (HP.row e size v n xs :: R) v n size xs := fun _ h => h.rd
theorem Reads.cons {v : Value} {n size : Nat} {xs : List Value} {R : List HP} {X : HP} (h : Reads R v n size xs) : Reads (X :: R) v n size xs := fun w hw => h w hw.tail
theorem Reads.perm {v : Value} {n size : Nat} {xs : List Value} {R R' : List HP} (h : Reads R v n size xs) (p : R'.Perm R) : Reads R' v n size xs := fun w hw => h w (hw.perm p)
theorem Reads.old {v : Value} {n size : Nat} {xs : List Value} {w0 : World} {R : List HP} (h : RdS w0 v n size xs) : Reads (HP.old w0.heap.size w0 :: R) v n size xs := fun w hw => by
  refine ⟨h.1, ?_⟩
  rcases h.2 with h | ⟨ad, cap, rfl, hh⟩
  · exact .inl h
  · exact .inr ⟨ad, cap, rfl, fun j u hu => (hw.below.cell (World.block_lt_of_cell? w0 _ (hh j u hu))).trans (hh j u hu)⟩

/-- A slice of integers that came in: it is nil; or it leads to a row of 'cap' cells, the numbers 'zs' (the first 'len' are its elements, the rest its spare room), each fitting its kind. -/
def IsRow (k : IntKind) (w : World) (a : Option Addr) (len cap : Nat) (zs : List Int) : Prop :=
  (a = none ∧ len = 0 ∧ cap = 0 ∧ zs = []) ∨
  ∃ x, a = some x ∧ len ≤ cap ∧ cap ≤ maxLen ∧ zs.length = cap ∧ (∀ i, i < zs.length → w.cell? (x.add i) = some (.int k (zs.getD i 0))) ∧ ∀ n ∈ zs, (Lit.int k n).wf = true

theorem IsRow.rd {k : IntKind} {w : World} {a : Option Addr} {len cap : Nat} {zs : List Int} (h : IsRow k w a len cap zs) : RdS w (.slice a len cap) len 1 ((zs.take len).map (Value.int k)) := by
  rcases h with ⟨rfl, rfl, rfl, rfl⟩ | ⟨x, rfl, hl, _, hz, hc, _⟩
  · exact ⟨rfl, .inl ⟨rfl, rfl⟩⟩
  · refine ⟨by simp; omega, .inr ⟨x, cap, rfl, fun j u hu => ?_⟩⟩
    rw [List.getElem?_map, List.getElem?_take] at hu
    split at hu
    · have hj : j < zs.length := by omega
      rw [List.getElem?_eq_getElem hj] at hu
      simp at hu
      subst hu
      rw [hc j hj]
      simp [List.getD, List.getElem?_eq_getElem hj]
    · simp at hu

theorem IsRow.wf {k : IntKind} {w : World} {a : Option Addr} {len cap : Nat} {zs : List Int} (h : IsRow k w a len cap zs) : ∀ n ∈ zs.take len, (Lit.int k n).wf = true := by
  intro n hn
  rcases h with ⟨rfl, rfl, rfl, rfl⟩ | ⟨x, rfl, hl, _, hz, hc, hw⟩
  · simp at hn
  · exact hw n (List.mem_of_mem_take hn)

theorem IsRow.len {k : IntKind} {w : World} {a : Option Addr} {len cap : Nat} {zs : List Int} (h : IsRow k w a len cap zs) : (zs.take len).length = len := by
  rcases h with ⟨rfl, rfl, rfl, rfl⟩ | ⟨x, rfl, hl, _, hz, _⟩
  · rfl
  · simp; omega

theorem wf_u8 {n : Int} (h : (Lit.int .u8 n).wf = true) : 0 ≤ n ∧ n ≤ 255 := by simp [Lit.wf, IntKind.min, IntKind.max, IntKind.signed, IntKind.bits] at h; omega
theorem wf_u16 {n : Int} (h : (Lit.int .u16 n).wf = true) : 0 ≤ n ∧ n ≤ 65535 := by simp [Lit.wf, IntKind.min, IntKind.max, IntKind.signed, IntKind.bits] at h; omega
theorem wf_u32 {n : Int} (h : (Lit.int .u32 n).wf = true) : 0 ≤ n ∧ n ≤ 4294967295 := by simp [Lit.wf, IntKind.min, IntKind.max, IntKind.signed, IntKind.bits] at h; omega
theorem wf_u64 {n : Int} (h : (Lit.int .u64 n).wf = true) : 0 ≤ n ∧ n ≤ 18446744073709551615 := by simp [Lit.wf, IntKind.min, IntKind.max, IntKind.signed, IntKind.bits] at h; omega
theorem wf_i64 {n : Int} (h : (Lit.int .i64 n).wf = true) : -9223372036854775808 ≤ n ∧ n ≤ 9223372036854775807 := by simp [Lit.wf, IntKind.min, IntKind.max, IntKind.signed, IntKind.bits] at h; omega

theorem Reads.append {v : Value} {n size : Nat} {xs : List Value} {R : List HP} (h : Reads R v n size xs) : ∀ S : List HP, Reads (S ++ R) v n size xs
  | [] => h
  | _ :: S => (h.append S).cons
theorem Sep.drop_left {w : World} {R : List HP} : ∀ {S : List HP}, Sep w (S ++ R) → Sep w R
  | [], h => h
  | _ :: _, h => Sep.drop_left h.tail

end Go.Proofs.Ytbhpcpcpccmacaa

namespace Go.Proofs.Ytbhpcpcpccmacaa

theorem List.reverseRecOn' {α : Type} {motive : List α → Prop} (l : List α) (nil : motive []) (snoc : ∀ l x, motive l → motive (l ++ [x])) : motive l := by
  have h : ∀ r : List α, motive r.reverse := by
    intro r
    induction r with
    | nil => exact nil
    | cons x r ih => rw [List.reverse_cons]; exact snoc _ _ ih
  have := h l.reverse
  rwa [List.reverse_reverse] at this

/-- The bits of a value, the highest first. -/
def valBits (v n : Nat) : List Bool := (List.range n).map fun i => v.testBit (n - 1 - i)

theorem valBits_length (v n : Nat) : (valBits v n).length = n := by simp [valBits]

theorem valBits_take (v n i : Nat) (h : i < n) : (valBits v n).take (i + 1) = (valBits v n).take i ++ [v.testBit (n - 1 - i)] := by
  rw [List.take_succ_eq_append_getElem (by simpa [valBits] using h)]
  simp [valBits]

/-- Bit i as a number; behind the end 0. -/
def bit (l : List Bool) (i : Nat) : Nat := (l.getD i false).toNat
theorem bit_le (l : List Bool) (i : Nat) : bit l i ≤ 1 := Bool.toNat_le _
theorem bit_out (l : List Bool) (i : Nat) (h : l.length ≤ i) : bit l i = 0 := by
  unfold bit; simp [List.getD, List.getElem?_eq_none h]
theorem bit_snoc (l : List Bool) (x : Bool) (i : Nat) (h : i ≠ l.length) : bit (l ++ [x]) i = bit l i := by
  unfold bit
  by_cases h1 : i < l.length
  · simp [List.getD, List.getElem?_append_left h1]
  · simp [List.getD, List.getElem?_append_right (Nat.le_of_not_lt h1), List.getElem?_eq_none (Nat.le_of_not_lt h1), List.getElem?_eq_none (l := [x]) (i := i - l.length) (by simp; omega)]
theorem bit_last (l : List Bool) (x : Bool) : bit (l ++ [x]) l.length = x.toNat := by
  unfold bit; simp [List.getD]

/-- Byte j of the byte form. -/
def byteAt (l : List Bool) (j : Nat) : Nat :=
  128 * bit l (8 * j) + 64 * bit l (8 * j + 1) + 32 * bit l (8 * j + 2) + 16 * bit l (8 * j + 3) + 8 * bit l (8 * j + 4) + 4 * bit l (8 * j + 5) + 2 * bit l (8 * j + 6) + bit l (8 * j + 7)

theorem byteAt_lt (l : List Bool) (j : Nat) : byteAt l j < 256 := by
  unfold byteAt
  have h := bit_le l
  have := h (8 * j); have := h (8 * j + 1); have := h (8 * j + 2); have := h (8 * j + 3); have := h (8 * j + 4); have := h (8 * j + 5); have := h (8 * j + 6); have := h (8 * j + 7)
  omega

/-- The first m bytes. -/
def pkN (l : List Bool) (m : Nat) : List Nat := (List.range m).map (byteAt l)
/-- The byte form. -/
def pk (l : List Bool) : List Nat := pkN l ((l.length + 7) / 8)

theorem pkN_length (l : List Bool) (m : Nat) : (pkN l m).length = m := by simp [pkN]
theorem pk_length (l : List Bool) : (pk l).length = (l.length + 7) / 8 := by simp [pk, pkN]
theorem pkN_getElem? (l : List Bool) (m j : Nat) (h : j < m) : (pkN l m)[j]? = some (byteAt l j) := by simp [pkN, h]

theorem byteAt_out (l : List Bool) (j : Nat) (h : l.length ≤ 8 * j) : byteAt l j = 0 := by
  unfold byteAt
  rw [bit_out l _ (by omega), bit_out l _ (by omega), bit_out l _ (by omega), bit_out l _ (by omega), bit_out l _ (by omega), bit_out l _ (by omega), bit_out l _ (by omega), bit_out l _ (by omega)]

theorem pkN_succ (l : List Bool) (m : Nat) : pkN l (m + 1) = pkN l m ++ [byteAt l m] := by simp [pkN, List.range_succ]

theorem byteAt_snoc_other (l : List Bool) (x : Bool) (j : Nat) (h : j ≠ l.length / 8) : byteAt (l ++ [x]) j = byteAt l j := by
  unfold byteAt
  rw [bit_snoc l x _ (by omega), bit_snoc l x _ (by omega), bit_snoc l x _ (by omega), bit_snoc l x _ (by omega), bit_snoc l x _ (by omega), bit_snoc l x _ (by omega), bit_snoc l x _ (by omega), bit_snoc l x _ (by omega)]

/-- What a new bit adds to its byte: which is below 2^(8 - place) multiples, so 'or' is '+'. -/
theorem byteAt_snoc (l : List Bool) (x : Bool) : byteAt (l ++ [x]) (l.length / 8) = byteAt l (l.length / 8) + x.toNat * 2 ^ (7 - l.length % 8) := by
  unfold byteAt
  obtain ⟨q, hq⟩ : ∃ q, q = l.length / 8 := ⟨_, rfl⟩
  obtain ⟨r, hr⟩ : ∃ r, r = l.length % 8 := ⟨_, rfl⟩
  have hl : l.length = 8 * q + r := by omega
  rw [← hq, ← hr]
  have e : ∀ k, bit (l ++ [x]) (8 * q + k) = bit l (8 * q + k) + if k = r then x.toNat else 0 := by
    intro k
    by_cases h : k = r
    · subst h
      rw [if_pos rfl, ← hl, bit_last, bit_out l _ (Nat.le_refl _)]; omega
    · rw [if_neg h, bit_snoc l x _ (by omega)]; rfl
  have e0 := e 0
  rw [Nat.add_zero] at e0
  rw [e0, e 1, e 2, e 3, e 4, e 5, e 6, e 7]
  have : r < 8 := by omega
  rcases (by omega : r = 0 ∨ r = 1 ∨ r = 2 ∨ r = 3 ∨ r = 4 ∨ r = 5 ∨ r = 6 ∨ r = 7) with h | h | h | h | h | h | h | h <;> subst h <;> simp <;> omega

theorem byteAt_low (l : List Bool) : byteAt l (l.length / 8) % 2 ^ (8 - l.length % 8) = 0 := by
  unfold byteAt
  obtain ⟨q, hq⟩ : ∃ q, q = l.length / 8 := ⟨_, rfl⟩
  obtain ⟨r, hr⟩ : ∃ r, r = l.length % 8 := ⟨_, rfl⟩
  have hl : l.length = 8 * q + r := by omega
  rw [← hq, ← hr]
  have o : ∀ k, r ≤ k → bit l (8 * q + k) = 0 := fun k hk => bit_out l _ (by omega)
  have : r < 8 := by omega
  rcases (by omega : r = 0 ∨ r = 1 ∨ r = 2 ∨ r = 3 ∨ r = 4 ∨ r = 5 ∨ r = 6 ∨ r = 7) with h | h | h | h | h | h | h | h <;> subst h
  all_goals
    rw [o 7 (by omega)]
    try rw [o 6 (by omega)]
    try rw [o 5 (by omega)]
    try rw [o 4 (by omega)]
    try rw [o 3 (by omega)]
    try rw [o 2 (by omega)]
    try rw [o 1 (by omega)]
    try (have o0 := o 0 (by omega); rw [Nat.add_zero] at o0; rw [o0])
    try simp
    try omega

/-- 'or' of a byte with a bit that is not yet set. -/
theorem or_add (a x r : Nat) (h : a % 2 ^ (r + 1) = 0) (hx : x ≤ 1) : a ||| x * 2 ^ r = a + x * 2 ^ r := by
  have hlt : x * 2 ^ r < 2 ^ (r + 1) := by
    rw [Nat.pow_succ]
    have : x * 2 ^ r ≤ 1 * 2 ^ r := Nat.mul_le_mul_right _ hx
    have : 0 < 2 ^ r := Nat.two_pow_pos r
    omega
  obtain ⟨q, hq⟩ := Nat.dvd_of_mod_eq_zero h
  subst hq
  exact (Nat.two_pow_add_eq_or_of_lt hlt q).symm

theorem byteAt_or (l : List Bool) (x : Bool) : byteAt l (l.length / 8) ||| x.toNat * 2 ^ (7 - l.length % 8) = byteAt (l ++ [x]) (l.length / 8) := by
  rw [byteAt_snoc]
  refine or_add _ _ _ ?_ (by cases x <;> simp)
  have h := byteAt_low l
  have e : 7 - l.length % 8 + 1 = 8 - l.length % 8 := by omega
  rw [e]; exact h

/-- One bit more: the last byte alone is another one. -/
theorem pkN_snoc (l : List Bool) (x : Bool) : (pkN l (l.length / 8 + 1)).set (l.length / 8) (byteAt (l ++ [x]) (l.length / 8)) = pk (l ++ [x]) := by
  have e : ((l ++ [x]).length + 7) / 8 = l.length / 8 + 1 := by simp; omega
  unfold pk
  rw [e]
  apply List.ext_getElem?
  intro j
  rw [List.getElem?_set, pkN_length]
  by_cases h : l.length / 8 = j
  · subst h; simp [pkN]
  · simp only [h, if_false]
    by_cases hj : j < l.length / 8 + 1
    · rw [pkN_getElem? _ _ _ hj, pkN_getElem? _ _ _ hj, byteAt_snoc_other l x j (by omega)]
    · rw [List.getElem?_eq_none (by simp [pkN_length]; omega), List.getElem?_eq_none (by simp [pkN_length]; omega)]

theorem pk_full (l : List Bool) (h : l.length % 8 ≠ 0) : pk l = pkN l (l.length / 8 + 1) := by
  unfold pk; congr 1; omega
theorem pk_whole (l : List Bool) (h : l.length % 8 = 0) : pk l ++ [0] = pkN l (l.length / 8 + 1) := by
  have e : (l.length + 7) / 8 = l.length / 8 := by omega
  unfold pk
  rw [e, pkN_succ, byteAt_out l _ (by omega)]

theorem pk_len_whole (l : List Bool) (h : l.length % 8 = 0) : (pk l).length + 1 = l.length / 8 + 1 := by rw [pk_length]; omega
theorem pk_len_full (l : List Bool) (h : l.length % 8 ≠ 0) : (pk l).length = l.length / 8 + 1 := by rw [pk_length]; omega

theorem testBit_int (v k : Nat) : ((v : Int) / 2 ^ k) % 2 = ((v.testBit k).toNat : Int) := by
  rw [Nat.testBit_eq_decide_div_mod_eq]
  have e : (v : Int) / 2 ^ k = ((v / 2 ^ k : Nat) : Int) := by simp
  rw [e]
  rcases Nat.mod_two_eq_zero_or_one (v / 2 ^ k) with h | h
  · simp [h]; omega
  · simp [h]; omega

/-- The value of bits. -/
def ofBits (l : List Bool) : Nat := l.foldl (fun v x => 2 * v + x.toNat) 0
theorem ofBits_snoc (l : List Bool) (x : Bool) : ofBits (l ++ [x]) = 2 * ofBits l + x.toNat := by simp [ofBits]
theorem ofBits_lt (l : List Bool) : ofBits l < 2 ^ l.length := by
  induction l using List.reverseRecOn' with
  | nil => simp [ofBits]
  | snoc l x ih =>
    rw [ofBits_snoc, List.length_append, List.length_singleton, Nat.pow_succ]
    have := Bool.toNat_le x
    omega

theorem byteAt_bit (l : List Bool) (i : Nat) : byteAt l (i / 8) / 2 ^ (7 - i % 8) % 2 = bit l i := by
  unfold byteAt
  obtain ⟨q, hq⟩ : ∃ q, q = i / 8 := ⟨_, rfl⟩
  obtain ⟨r, hr⟩ : ∃ r, r = i % 8 := ⟨_, rfl⟩
  have hl : i = 8 * q + r := by omega
  rw [← hq, ← hr, hl]
  have h := bit_le l
  have h0 := h (8 * q); have h1 := h (8 * q + 1); have h2 := h (8 * q + 2); have h3 := h (8 * q + 3); have h4 := h (8 * q + 4); have h5 := h (8 * q + 5); have h6 := h (8 * q + 6); have h7 := h (8 * q + 7)
  have : r < 8 := by omega
  rcases (by omega : r = 0 ∨ r = 1 ∨ r = 2 ∨ r = 3 ∨ r = 4 ∨ r = 5 ∨ r = 6 ∨ r = 7) with h | h | h | h | h | h | h | h <;> subst h <;> simp <;> omega

end Go.Proofs.Ytbhpcpcpccmacaa

namespace Go.Proofs.Ytbhpcpcpccmacaa

theorem byteAt_shl (l : List Bool) (_h : l.length % 8 ≠ 0) : byteAt l (l.length / 8) * 2 ^ (l.length % 8) % 256 = 0 := by
  have h1 := byteAt_low l
  obtain ⟨q, hq⟩ := Nat.dvd_of_mod_eq_zero h1
  rw [hq]
  have e : 2 ^ (8 - l.length % 8) * q * 2 ^ (l.length % 8) = 256 * q := by
    have h8 : 8 - l.length % 8 + l.length % 8 = 8 := by omega
    have : 2 ^ (8 - l.length % 8) * 2 ^ (l.length % 8) = 256 := by rw [← Nat.pow_add, h8]
    rw [Nat.mul_right_comm, this]
  rw [e]; omega

theorem valBits_one (x : Bool) : valBits x.toNat 1 = [x] := by cases x <;> rfl
theorem valBits_zero (v : Nat) : valBits v 0 = [] := rfl

end Go.Proofs.Ytbhpcpcpccmacaa

namespace Go.Proofs.Ytbhpcpcpccmacaa

/-- The bits of bytes. -/
def allBits (bs : List Nat) : List Bool := bs.flatMap fun x => valBits x 8

theorem allBits_nil : allBits [] = [] := rfl
theorem allBits_cons (x : Nat) (bs : List Nat) : allBits (x :: bs) = valBits x 8 ++ allBits bs := rfl
theorem allBits_append (a b : List Nat) : allBits (a ++ b) = allBits a ++ allBits b := by simp [allBits]
theorem allBits_length (bs : List Nat) : (allBits bs).length = 8 * bs.length := by
  induction bs with
  | nil => rfl
  | cons x bs ih => rw [allBits_cons, List.length_append, valBits_length, ih, List.length_cons]; omega

theorem allBits_get (bs : List Nat) (j r : Nat) (hr : r < 8) (hj : j < bs.length) : (allBits bs).getD (8 * j + r) false = bs[j].testBit (7 - r) := by
  induction bs generalizing j with
  | nil => simp at hj
  | cons x bs ih =>
    rw [allBits_cons]
    cases j with
    | zero =>
      simp only [List.getElem_cons_zero, Nat.mul_zero, Nat.zero_add, List.getD]
      rw [List.getElem?_append_left (by rw [valBits_length]; exact hr)]
      simp [valBits, hr]
    | succ j =>
      have hl : (valBits x 8).length ≤ 8 * (j + 1) + r := by rw [valBits_length]; omega
      simp only [List.getElem_cons_succ, List.getD]
      rw [List.getElem?_append_right hl, valBits_length]
      have e : 8 * (j + 1) + r - 8 = 8 * j + r := by omega
      rw [e]
      exact ih j (by simpa using hj)

theorem bit_all (bs : List Nat) (j r : Nat) (hr : r < 8) (hj : j < bs.length) : bit (allBits bs) (8 * j + r) = bs[j] / 2 ^ (7 - r) % 2 := by
  unfold bit
  rw [allBits_get bs j r hr hj, Nat.testBit_eq_decide_div_mod_eq]
  rcases Nat.mod_two_eq_zero_or_one (bs[j] / 2 ^ (7 - r)) with h | h <;> simp [h]

theorem byte_of_bits (x : Nat) (h : x < 256) : 128 * (x / 2 ^ 7 % 2) + 64 * (x / 2 ^ 6 % 2) + 32 * (x / 2 ^ 5 % 2) + 16 * (x / 2 ^ 4 % 2) + 8 * (x / 2 ^ 3 % 2) + 4 * (x / 2 ^ 2 % 2) + 2 * (x / 2 ^ 1 % 2) + x / 2 ^ 0 % 2 = x := by
  simp; omega

theorem byteAt_all (bs : List Nat) (j : Nat) (hj : j < bs.length) (hb : bs[j] < 256) : byteAt (allBits bs) j = bs[j] := by
  unfold byteAt
  have e0 := bit_all bs j 0 (by omega) hj
  rw [Nat.add_zero] at e0
  rw [e0, bit_all bs j 1 (by omega) hj, bit_all bs j 2 (by omega) hj, bit_all bs j 3 (by omega) hj, bit_all bs j 4 (by omega) hj, bit_all bs j 5 (by omega) hj, bit_all bs j 6 (by omega) hj, bit_all bs j 7 (by omega) hj]
  exact byte_of_bits _ hb

theorem pk_all (bs : List Nat) (hb : ∀ x ∈ bs, x < 256) : pk (allBits bs) = bs := by
  apply List.ext_getElem?
  intro j
  have e : ((allBits bs).length + 7) / 8 = bs.length := by rw [allBits_length]; omega
  unfold pk
  rw [e]
  by_cases hj : j < bs.length
  · rw [pkN_getElem? _ _ _ hj, List.getElem?_eq_getElem hj, byteAt_all bs j hj (hb _ (List.getElem_mem hj))]
  · rw [List.getElem?_eq_none (by rw [pkN_length]; omega), List.getElem?_eq_none (by omega)]

theorem bit_take (l : List Bool) (n i : Nat) : bit (l.take n) i = if i < n then bit l i else 0 := by
  unfold bit
  by_cases h : i < n
  · simp [List.getD, h]
  · rw [if_neg h, List.getD, List.getElem?_take, if_neg h]; rfl

/-- Are all bits from n on 0? -/
def restZero (l : List Bool) (n : Nat) : Prop := ∀ i, n ≤ i → bit l i = 0

theorem byteAt_take (l : List Bool) (n j : Nat) (h : restZero l n) : byteAt (l.take n) j = byteAt l j := by
  have e : ∀ i, bit (l.take n) i = bit l i := fun i => by
    rw [bit_take]; split
    · rfl
    · exact (h i (by omega)).symm
  unfold byteAt
  simp only [e]

theorem pk_take (bs : List Nat) (n : Nat) (hb : ∀ x ∈ bs, x < 256) (hl : bs.length = (n + 7) / 8) (h : restZero (allBits bs) n) : pk ((allBits bs).take n) = bs := by
  have h1 := pk_all bs hb
  unfold pk at h1 ⊢
  have e1 : ((allBits bs).length + 7) / 8 = bs.length := by rw [allBits_length]; omega
  have e2 : (((allBits bs).take n).length + 7) / 8 = bs.length := by rw [List.length_take, allBits_length]; omega
  rw [e1] at h1
  rw [e2]
  refine Eq.trans ?_ h1
  unfold pkN
  exact List.map_congr_left fun j _ => byteAt_take _ _ _ h

theorem low_bits (x m : Nat) (hm : m ≤ 8) (hx : x < 256) (h : x % 2 ^ (8 - m) = 0) (k : Nat) (hk : k < 8 - m) : x / 2 ^ k % 2 = 0 := by
  have h2 : m = 0 ∨ m = 1 ∨ m = 2 ∨ m = 3 ∨ m = 4 ∨ m = 5 ∨ m = 6 ∨ m = 7 ∨ m = 8 := by omega
  have h3 : k = 0 ∨ k = 1 ∨ k = 2 ∨ k = 3 ∨ k = 4 ∨ k = 5 ∨ k = 6 ∨ k = 7 := by omega
  rcases h2 with rfl | rfl | rfl | rfl | rfl | rfl | rfl | rfl | rfl <;> simp at h hk <;> rcases h3 with rfl | rfl | rfl | rfl | rfl | rfl | rfl | rfl <;> simp at hk ⊢ <;> omega

theorem shl_low (x m : Nat) (hm : m < 8) (h : x * 2 ^ m % 256 = 0) : x % 2 ^ (8 - m) = 0 := by
  rcases (by omega : m = 0 ∨ m = 1 ∨ m = 2 ∨ m = 3 ∨ m = 4 ∨ m = 5 ∨ m = 6 ∨ m = 7) with rfl | rfl | rfl | rfl | rfl | rfl | rfl | rfl <;> simp at h ⊢ <;> omega
theorem low_shl (x m : Nat) (hm : m < 8) (h : x % 2 ^ (8 - m) = 0) : x * 2 ^ m % 256 = 0 := by
  rcases (by omega : m = 0 ∨ m = 1 ∨ m = 2 ∨ m = 3 ∨ m = 4 ∨ m = 5 ∨ m = 6 ∨ m = 7) with rfl | rfl | rfl | rfl | rfl | rfl | rfl | rfl <;> simp at h ⊢ <;> omega

/-- The last byte's test is the test of all bits behind. -/
theorem restZero_iff (bs : List Nat) (n : Nat) (hb : ∀ x ∈ bs, x < 256) (hl : bs.length = (n + 7) / 8) :
    restZero (allBits bs) n ↔ (n % 8 = 0 ∨ bs.getD (n / 8) 0 * 2 ^ (n % 8) % 256 = 0) := by
  constructor
  · intro h
    by_cases h8 : n % 8 = 0
    · exact .inl h8
    · right
      have hj : n / 8 < bs.length := by omega
      have hx : bs[n / 8] < 256 := hb _ (List.getElem_mem hj)
      have hg : bs.getD (n / 8) 0 = bs[n / 8] := by simp [List.getD, List.getElem?_eq_getElem hj]
      rw [hg]
      refine low_shl _ _ (by omega) ?_
      have hz : ∀ r, n % 8 ≤ r → r < 8 → bs[n / 8] / 2 ^ (7 - r) % 2 = 0 := fun r h1 h2 => by
        rw [← bit_all bs (n / 8) r h2 hj]; exact h _ (by omega)
      have hs := byte_of_bits _ hx
      generalize bs[n / 8] = x at *
      have hm : n % 8 < 8 := by omega
      have hm0 : n % 8 ≠ 0 := h8
      generalize n % 8 = m at *
      have z7 := hz 7 (by omega) (by omega)
      rcases (by omega : m = 1 ∨ m = 2 ∨ m = 3 ∨ m = 4 ∨ m = 5 ∨ m = 6 ∨ m = 7) with rfl | rfl | rfl | rfl | rfl | rfl | rfl
      · have := hz 6 (by omega) (by omega); have := hz 5 (by omega) (by omega); have := hz 4 (by omega) (by omega); have := hz 3 (by omega) (by omega); have := hz 2 (by omega) (by omega); have := hz 1 (by omega) (by omega); simp at *; omega
      · have := hz 6 (by omega) (by omega); have := hz 5 (by omega) (by omega); have := hz 4 (by omega) (by omega); have := hz 3 (by omega) (by omega); have := hz 2 (by omega) (by omega); simp at *; omega
      · have := hz 6 (by omega) (by omega); have := hz 5 (by omega) (by omega); have := hz 4 (by omega) (by omega); have := hz 3 (by omega) (by omega); simp at *; omega
      · have := hz 6 (by omega) (by omega); have := hz 5 (by omega) (by omega); have := hz 4 (by omega) (by omega); simp at *; omega
      · have := hz 6 (by omega) (by omega); have := hz 5 (by omega) (by omega); simp at *; omega
      · have := hz 6 (by omega) (by omega); simp at *; omega
      · simp at *; omega
  · intro h i hi
    by_cases hin : i < 8 * bs.length
    · have e : i = 8 * (i / 8) + i % 8 := by omega
      have hj : i / 8 < bs.length := by omega
      have hx : bs[i / 8] < 256 := hb _ (List.getElem_mem hj)
      rw [e, bit_all bs _ _ (by omega) hj]
      have hn8 : n % 8 ≠ 0 := by omega
      have hq : i / 8 = n / 8 := by omega
      have h2 := h.resolve_left hn8
      have hg : bs.getD (n / 8) 0 = bs[i / 8] := by
        have hj2 : n / 8 < bs.length := by omega
        simp only [hq, List.getD, List.getElem?_eq_getElem hj2]; rfl
      rw [hg] at h2
      exact low_bits _ (n % 8) (by omega) hx (shl_low _ _ (by omega) h2) _ (by omega)
    · exact bit_out _ _ (by rw [allBits_length]; omega)

/-- What NewReader tells of bytes and a number of bits: an error's number, or the bits. -/
def openBits (bs : List Nat) (n : Int) : Nat × List Bool :=
  if n < 0 ∨ 33554432 < n then (2, [])
  else if bs.length < (n.toNat + 7) / 8 then (4, [])
  else if (n.toNat + 7) / 8 < bs.length then (5, [])
  else if n.toNat % 8 ≠ 0 ∧ bs.getD (n.toNat / 8) 0 * 2 ^ (n.toNat % 8) % 256 ≠ 0 then (3, [])
  else (0, (allBits bs).take n.toNat)

theorem openBits_ok {bs : List Nat} {n : Int} {l : List Bool} (hb : ∀ x ∈ bs, x < 256) (h : openBits bs n = (0, l)) : 0 ≤ n ∧ n ≤ 33554432 ∧ (l.length : Int) = n ∧ pk l = bs ∧ bs.length = (l.length + 7) / 8 ∧ l = (allBits bs).take l.length ∧ restZero (allBits bs) l.length := by
  unfold openBits at h
  by_cases h1 : n < 0 ∨ 33554432 < n
  · rw [if_pos h1] at h; simp at h
  rw [if_neg h1] at h
  by_cases h2 : bs.length < (n.toNat + 7) / 8
  · rw [if_pos h2] at h; simp at h
  rw [if_neg h2] at h
  by_cases h3 : (n.toNat + 7) / 8 < bs.length
  · rw [if_pos h3] at h; simp at h
  rw [if_neg h3] at h
  by_cases h4 : n.toNat % 8 ≠ 0 ∧ bs.getD (n.toNat / 8) 0 * 2 ^ (n.toNat % 8) % 256 ≠ 0
  · rw [if_pos h4] at h; simp at h
  rw [if_neg h4] at h
  simp only [Prod.mk.injEq, true_and] at h
  subst h
  have hl : bs.length = (n.toNat + 7) / 8 := by omega
  have hr : restZero (allBits bs) n.toNat := (restZero_iff bs n.toNat hb hl).2 (by omega)
  have hlen : ((allBits bs).take n.toNat).length = n.toNat := by rw [List.length_take, allBits_length]; omega
  rw [hlen]
  exact ⟨by omega, by omega, by omega, pk_take bs _ hb hl hr, hl, rfl, hr⟩

end Go.Proofs.Ytbhpcpcpccmacaa
