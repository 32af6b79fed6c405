/- My own small separation logic over the model's heap: a list of assertions with pairwise disjoint footprints. No program in sight. -/
import Derived.WalkKit
import Derived.WalkSmall
namespace Go.Proofs.Ytglinpclcmmnbaa
open Go.RowKit

/-- w' agrees with w on the blocks of S, and on the streams. -/
structure Agree (w w' : World) (S : Nat → Prop) : Prop where
  os : w'.os = w.os
  tape : w'.tape = w.tape
  output : w'.output = w.output
  size : w.heap.size ≤ w'.heap.size
  block : ∀ k, S k → w'.heap[k]? = w.heap[k]?

theorem Agree.mono {w w' : World} {S S' : Nat → Prop} (h : Agree w w' S) (hs : ∀ k, S' k → S k) : Agree w w' S' :=
  ⟨h.os, h.tape, h.output, h.size, fun k hk => h.block k (hs k hk)⟩
theorem Agree.refl (w : World) (S : Nat → Prop) : Agree w w S := ⟨rfl, rfl, rfl, Nat.le_refl _, fun _ _ => rfl⟩

/-- An assertion on a world and a set of blocks. -/
structure HP where
  holds : World → (Nat → Prop) → Prop
  loc : ∀ w w' S, Agree w w' S → holds w S → holds w' S
  bnd : ∀ w S, holds w S → ∀ k, S k → k < w.heap.size
  ext : ∀ w S S', (∀ k, S k ↔ S' k) → holds w S → holds w S'

def SepOn (w : World) : List HP → (Nat → Prop) → Prop
  | [], S => ∀ k, ¬ S k
  | X :: L, S => ∃ S1 S2, (∀ k, S k ↔ S1 k ∨ S2 k) ∧ (∀ k, S1 k → S2 k → False) ∧ X.holds w S1 ∧ SepOn w L S2

def Sep (w : World) (L : List HP) : Prop := ∃ S, SepOn w L S

theorem SepOn.loc {w w' : World} : ∀ {L : List HP} {S : Nat → Prop}, Agree w w' S → SepOn w L S → SepOn w' L S
  | [], _, _, h => h
  | X :: _, _, ha, ⟨S1, S2, h1, h2, h3, h4⟩ =>
    ⟨S1, S2, h1, h2, X.loc w w' S1 (ha.mono fun k hk => (h1 k).2 (.inl hk)) h3, SepOn.loc (ha.mono fun k hk => (h1 k).2 (.inr hk)) h4⟩

theorem SepOn.bnd {w : World} : ∀ {L : List HP} {S : Nat → Prop}, SepOn w L S → ∀ k, S k → k < w.heap.size
  | [], _, h, k, hk => absurd hk (h k)
  | X :: L, _, ⟨S1, S2, h1, _, h3, h4⟩, k, hk => by
    rcases (h1 k).1 hk with h | h
    · exact X.bnd w S1 h3 k h
    · exact SepOn.bnd h4 k h

theorem SepOn.append {w : World} : ∀ {L R : List HP} {S1 S2 : Nat → Prop}, SepOn w L S1 → SepOn w R S2 → (∀ k, S1 k → S2 k → False) → SepOn w (L ++ R) (fun k => S1 k ∨ S2 k)
  | [], R, S1, S2, h1, h2, _ => by
    have e : (fun k => S1 k ∨ S2 k) = S2 := by funext k; have := h1 k; simp [this]
    rw [e]; exact h2
  | X :: L, R, S1, S2, ⟨A, B, h1, h3, h4, h5⟩, h2, hd =>
    ⟨A, fun k => B k ∨ S2 k, fun k => by show S1 k ∨ S2 k ↔ A k ∨ (B k ∨ S2 k); rw [h1 k, or_assoc], fun k ha hb => by
        rcases hb with hb | hb
        · exact h3 k ha hb
        · exact hd k ((h1 k).2 (.inl ha)) hb, h4, SepOn.append h5 h2 fun k hb => hd k ((h1 k).2 (.inr hb))⟩

theorem SepOn.split {w : World} : ∀ {L R : List HP} {S : Nat → Prop}, SepOn w (L ++ R) S → ∃ S1 S2, (∀ k, S k ↔ S1 k ∨ S2 k) ∧ (∀ k, S1 k → S2 k → False) ∧ SepOn w L S1 ∧ SepOn w R S2
  | [], R, S, h => ⟨fun _ => False, S, fun k => by simp, fun k h => h.elim, fun k h => h, h⟩
  | X :: L, R, S, ⟨A, B, h1, h2, h3, h4⟩ => by
    obtain ⟨C, D, k1, k2, k3, k4⟩ := SepOn.split h4
    refine ⟨fun k => A k ∨ C k, D, fun k => by rw [h1 k, k1 k, or_assoc], fun k ha hb => ?_, ⟨A, C, fun k => Iff.rfl, fun k ha hc => h2 k ha ((k1 k).2 (.inl hc)), h3, k3⟩, k4⟩
    rcases ha with ha | ha
    · exact h2 k ha ((k1 k).2 (.inr hb))
    · exact k2 k ha hb

/-- The one rule of change: what stands ahead of R is changed into L', in its own blocks and in new ones. -/
theorem Sep.upd {w w' : World} {L R L' : List HP} (h : Sep w (L ++ R)) (ho : w'.os = w.os) (ht : w'.tape = w.tape) (hu : w'.output = w.output) (hs : w.heap.size ≤ w'.heap.size)
    (hstep : ∀ S, SepOn w L S → (∀ k, k < w.heap.size → ¬ S k → w'.heap[k]? = w.heap[k]?) ∧ ∃ S', SepOn w' L' S' ∧ ∀ k, S' k → S k ∨ w.heap.size ≤ k) : Sep w' (L' ++ R) := by
  obtain ⟨S, h⟩ := h
  obtain ⟨S1, S2, h1, h2, h3, h4⟩ := h.split
  obtain ⟨f1, S', f2, f3⟩ := hstep S1 h3
  refine ⟨_, f2.append (h4.loc ⟨ho, ht, hu, hs, fun k hk => f1 k (h4.bnd k hk) (fun h => h2 k h hk)⟩) fun k a b => ?_⟩
  rcases f3 k a with h | h
  · exact h2 k h b
  · have := h4.bnd k b; omega

/-- What agrees everywhere keeps all. -/
theorem Sep.same {w w' : World} {L : List HP} (h : Sep w L) (ho : w'.os = w.os) (ht : w'.tape = w.tape) (hu : w'.output = w.output) (hh : w'.heap = w.heap) : Sep w' L := by
  obtain ⟨S, h⟩ := h
  exact ⟨S, h.loc ⟨ho, ht, hu, by rw [hh]; exact Nat.le_refl _, fun k _ => by rw [hh]⟩⟩

theorem Sep.drew {w : World} {L : List HP} (h : Sep w L) : Sep w.drew L := h.same rfl rfl rfl rfl
theorem Sep.drewN {w : World} {L : List HP} (h : Sep w L) (n : Nat) : Sep (w.drewN n) L := h.same rfl rfl rfl rfl

theorem Sep.swap {w : World} {X Y : HP} {L : List HP} (h : Sep w (X :: Y :: L)) : Sep w (Y :: X :: L) := by
  obtain ⟨S, S1, S2, h1, h2, h3, S3, S4, k1, k2, k3, k4⟩ := h
  refine ⟨S, S3, fun k => S1 k ∨ S4 k, fun k => ?_, fun k a b => ?_, k3, S1, S4, fun k => Iff.rfl, fun k a b => h2 k a ((k1 k).2 (.inr b)), h3, k4⟩
  · rw [h1 k, k1 k, or_left_comm]
  · rcases b with b | b
    · exact h2 k b ((k1 k).2 (.inl a))
    · exact k2 k a b

theorem Sep.rot {w : World} {X : HP} {L : List HP} (h : Sep w (X :: L)) : Sep w (L ++ [X]) := by
  obtain ⟨S, S1, S2, h1, h2, h3, h4⟩ := h
  refine ⟨_, SepOn.append h4 (R := [X]) (S2 := S1) ⟨S1, fun _ => False, fun k => by simp, fun k _ h => h, h3, fun k h => h⟩ fun k a b => h2 k b a⟩
theorem Sep.tail {w : World} {X : HP} {L : List HP} (h : Sep w (X :: L)) : Sep w L := by
  obtain ⟨S, S1, S2, _, _, _, h4⟩ := h; exact ⟨S2, h4⟩

theorem Sep.cons_congr {w : World} {X : HP} {L L' : List HP} (h : Sep w (X :: L)) (f : ∀ S, SepOn w L S → SepOn w L' S) : Sep w (X :: L') := by
  obtain ⟨S, S1, S2, h1, h2, h3, h4⟩ := h; exact ⟨S, S1, S2, h1, h2, h3, f _ h4⟩

theorem SepOn.perm {w : World} {L L' : List HP} (p : L.Perm L') : ∀ S, SepOn w L S → SepOn w L' S := by
  induction p with
  | nil => exact fun S h => h
  | cons X _ ih => exact fun S ⟨S1, S2, h1, h2, h3, h4⟩ => ⟨S1, S2, h1, h2, h3, ih _ h4⟩
  | swap X Y L =>
    rintro S ⟨S1, S2, h1, h2, h3, S3, S4, k1, k2, k3, k4⟩
    refine ⟨S3, fun k => S1 k ∨ S4 k, fun k => ?_, fun k a b => ?_, k3, S1, S4, fun k => Iff.rfl, fun k a b => h2 k a ((k1 k).2 (.inr b)), h3, k4⟩
    · rw [h1 k, k1 k, or_left_comm]
    · rcases b with b | b
      · exact h2 k b ((k1 k).2 (.inl a))
      · exact k2 k a b
  | trans _ _ ih1 ih2 => exact fun S h => ih2 _ (ih1 _ h)

theorem Sep.perm {w : World} {L L' : List HP} (h : Sep w L) (p : L.Perm L') : Sep w L' := by
  obtain ⟨S, h⟩ := h; exact ⟨S, SepOn.perm p S h⟩

/-- Bring the third, fourth .. to the front. -/
theorem Sep.rot3 {w : World} {X Y Z : HP} {L : List HP} (h : Sep w (X :: Y :: Z :: L)) : Sep w (Z :: X :: Y :: L) := (h.cons_congr (fun _ => SepOn.perm (.swap Z Y L) _)).swap
theorem Sep.rot4 {w : World} {X Y Z U : HP} {L : List HP} (h : Sep w (X :: Y :: Z :: U :: L)) : Sep w (U :: X :: Y :: Z :: L) :=
  h.perm (((List.Perm.swap U Z L).cons Y |>.trans (.swap U Y (Z :: L)) |>.cons X).trans (.swap U X _))

theorem Sep.mid2 {w : World} {X A B : HP} {L : List HP} (h : Sep w (X :: A :: B :: L)) : Sep w (A :: B :: X :: L) :=
  h.perm ((List.Perm.swap A X _).trans (.cons A (.swap B X L)))
theorem Sep.mid3 {w : World} {X A B C : HP} {L : List HP} (h : Sep w (X :: A :: B :: C :: L)) : Sep w (A :: B :: C :: X :: L) :=
  h.perm ((List.Perm.swap A X _).trans (.cons A ((List.Perm.swap B X _).trans (.cons B (.swap C X L)))))

/-! ## Assertions -/

def HP.pt (b : Nat) (c : Array Value) (T : TypeId) : HP where
  holds w S := (∀ k, S k ↔ k = b) ∧ w.heap[b]? = some (.cells c T (0, 0))
  loc w w' S ha h := ⟨h.1, (ha.block b ((h.1 b).2 rfl)).trans h.2⟩
  bnd w S h k hk := by
    obtain rfl := (h.1 k).1 hk
    exact (Array.getElem?_eq_some_iff.1 h.2).1
  ext w S S' he h := ⟨fun k => (he k).symm.trans (h.1 k), h.2⟩

/-- The old memory: below B all is as in w0. -/
def HP.old (B : Nat) (w0 : World) : HP where
  holds w S := (∀ k, S k ↔ k < B) ∧ Below B w0 w ∧ B ≤ w.heap.size
  loc _w _w' _S ha h := ⟨h.1, ⟨ha.os.trans h.2.1.os, ha.tape.trans h.2.1.tape, ha.output.trans h.2.1.output, Nat.le_trans h.2.1.size ha.size, fun k hk => (ha.block k ((h.1 k).2 hk)).trans (h.2.1.block k hk)⟩, Nat.le_trans h.2.2 ha.size⟩
  bnd _w _S h k hk := Nat.lt_of_lt_of_le ((h.1 k).1 hk) h.2.2
  ext _w _S _S' he h := ⟨fun k => (he k).symm.trans (h.1 k), h.2⟩

/-- A slice that owns its row. -/
def HP.row (e : TypeId) (size : Nat) (v : Value) (n : Nat) (xs : List Value) : HP where
  holds w S := (∀ k, S k ↔ v.ownBlock = some k) ∧ w.ownsRow 0 e size v n xs
  loc w w' S ha h := ⟨h.1, by
    refine ⟨h.2.1, ?_⟩
    rcases h.2.2 with hn | ⟨g, cap, cur, rfl, hb, hgg, rest⟩
    · exact .inl hn
    · exact .inr ⟨g, cap, cur, rfl, hb, (ha.block g ((h.1 g).2 rfl)).trans hgg, rest⟩⟩
  bnd w S h k hk := (h.2.lt k ((h.1 k).1 hk)).2
  ext w S S' he h := ⟨fun k => (he k).symm.trans (h.1 k), h.2⟩

def HP.ex {α : Sort _} (f : α → HP) : HP where
  holds w S := ∃ a, (f a).holds w S
  loc w w' S ha := fun ⟨a, h⟩ => ⟨a, (f a).loc w w' S ha h⟩
  bnd w S := fun ⟨a, h⟩ => (f a).bnd w S h
  ext w S S' he := fun ⟨a, h⟩ => ⟨a, (f a).ext w S S' he h⟩

def HP.pure (p : Prop) : HP where
  holds _ S := (∀ k, ¬ S k) ∧ p
  loc _ _ _ _ h := h
  bnd _ _ h k hk := absurd hk (h.1 k)
  ext _ _ _ he h := ⟨fun k hk => h.1 k ((he k).2 hk), h.2⟩

/-- Several at once. -/
def HP.all (L : List HP) : HP where
  holds w S := SepOn w L S
  loc _ _ _ ha h := h.loc ha
  bnd _ _ h := h.bnd
  ext w _ _ he h := by
    rw [← (funext fun k => propext (he k) : _ = _)]; exact h

theorem Sep.ex_elim {α : Sort _} {w : World} {f : α → HP} {L : List HP} (h : Sep w (HP.ex f :: L)) : ∃ a, Sep w (f a :: L) := by
  obtain ⟨S, S1, S2, h1, h2, ⟨a, h3⟩, h4⟩ := h
  exact ⟨a, S, S1, S2, h1, h2, h3, h4⟩
theorem Sep.ex_intro {α : Sort _} {w : World} {f : α → HP} {L : List HP} (a : α) (h : Sep w (f a :: L)) : Sep w (HP.ex f :: L) := by
  obtain ⟨S, S1, S2, h1, h2, h3, h4⟩ := h
  exact ⟨S, S1, S2, h1, h2, ⟨a, h3⟩, h4⟩
theorem Sep.pure_elim {w : World} {p : Prop} {L : List HP} (h : Sep w (HP.pure p :: L)) : p ∧ Sep w L := by
  obtain ⟨S, S1, S2, h1, h2, h3, h4⟩ := h
  exact ⟨h3.2, S2, h4⟩
theorem Sep.pure_intro {w : World} {p : Prop} {L : List HP} (hp : p) (h : Sep w L) : Sep w (HP.pure p :: L) := by
  obtain ⟨S, h⟩ := h
  exact ⟨S, fun _ => False, S, fun k => by simp, fun k h => h.elim, ⟨fun k h => h, hp⟩, h⟩
theorem Sep.all_elim {w : World} {M L : List HP} (h : Sep w (HP.all M :: L)) : Sep w (M ++ L) := by
  obtain ⟨S, S1, S2, h1, h2, h3, h4⟩ := h
  exact ⟨_, SepOn.append h3 h4 h2⟩
theorem Sep.all_intro {w : World} {M L : List HP} (h : Sep w (M ++ L)) : Sep w (HP.all M :: L) := by
  obtain ⟨S, h⟩ := h
  obtain ⟨S1, S2, h1, h2, h3, h4⟩ := h.split
  exact ⟨S, S1, S2, h1, h2, h3, h4⟩

/-! ## What the walk reads off -/

theorem Sep.heap {w : World} {b : Nat} {c : Array Value} {T : TypeId} {L : List HP} (h : Sep w (HP.pt b c T :: L)) : w.heap[b]? = some (.cells c T (0, 0)) := by
  obtain ⟨S, S1, S2, h1, h2, h3, h4⟩ := h; exact h3.2
theorem Sep.lt {w : World} {b : Nat} {c : Array Value} {T : TypeId} {L : List HP} (h : Sep w (HP.pt b c T :: L)) : b < w.heap.size := (Array.getElem?_eq_some_iff.1 h.heap).1
theorem Sep.cell {w : World} {b : Nat} {c : Array Value} {T : TypeId} {L : List HP} (h : Sep w (HP.pt b c T :: L)) (i : Nat) {v : Value} (hv : c[i]? = some v) : w.cell? ⟨b, i, none⟩ = some v := by
  simp [World.cell?, h.heap, hv]
theorem Sep.froz {w : World} {b : Nat} {c : Array Value} {T : TypeId} {L : List HP} (h : Sep w (HP.pt b c T :: L)) (i : Nat) : w.frozen? ⟨b, i, none⟩ = false := by
  simp [World.frozen?, h.heap]
theorem Sep.ne {w : World} {b g : Nat} {c d : Array Value} {T U : TypeId} {L : List HP} (h : Sep w (HP.pt b c T :: HP.pt g d U :: L)) : b ≠ g := by
  obtain ⟨S, S1, S2, h1, h2, h3, S3, S4, k1, k2, k3, k4⟩ := h
  intro e
  exact h2 b ((h3.1 b).2 rfl) ((k1 b).2 (.inl ((k3.1 b).2 e)))
theorem Sep.below {w : World} {B : Nat} {w0 : World} {L : List HP} (h : Sep w (HP.old B w0 :: L)) : Below B w0 w := by
  obtain ⟨S, S1, S2, h1, h2, h3, h4⟩ := h; exact h3.2.1
theorem Sep.owns {w : World} {e : TypeId} {size : Nat} {v : Value} {n : Nat} {xs : List Value} {L : List HP} (h : Sep w (HP.row e size v n xs :: L)) : w.ownsRow 0 e size v n xs := by
  obtain ⟨S, S1, S2, h1, h2, h3, h4⟩ := h; exact h3.2

/-! ## What the walk does -/

theorem Sep.start (w : World) : Sep w [HP.old w.heap.size w] :=
  ⟨fun k => k < w.heap.size, _, fun _ => False, fun k => by simp, fun k _ h => h, ⟨fun k => Iff.rfl, Below.refl _ _, Nat.le_refl _⟩, fun k h => h⟩

theorem Sep.alloc {w : World} {L : List HP} (h : Sep w L) (c : Array Value) (T : TypeId) : Sep (w.alloc (.cells c T)) (HP.pt w.heap.size c T :: L) := by
  refine Sep.upd (L := []) (L' := [HP.pt w.heap.size c T]) (R := L) h rfl rfl rfl (by simp) fun S hS => ⟨fun k hk _ => Below.heap_alloc _ _ _ hk, fun k => k = w.heap.size, ⟨_, fun _ => False, fun k => by simp, fun k _ h => h, ⟨fun k => Iff.rfl, heap_alloc_new w _⟩, fun k h => h⟩, fun k hk => .inr (by omega)⟩

theorem SepOn.one {w : World} {X : HP} {S : Nat → Prop} : SepOn w [X] S ↔ X.holds w S := by
  constructor
  · rintro ⟨S1, S2, h1, h2, h3, h4⟩
    exact X.ext w S1 S (fun k => ⟨fun h => (h1 k).2 (.inl h), fun h => ((h1 k).1 h).elim id fun h => absurd h (h4 k)⟩) h3
  · exact fun h => ⟨S, fun _ => False, fun k => by simp, fun k _ h => h, h, fun k h => h⟩

theorem Sep.set {w : World} {b : Nat} {c : Array Value} {T : TypeId} {L : List HP} (h : Sep w (HP.pt b c T :: L)) (i : Nat) (v : Value) : Sep (w.setCell ⟨b, i, none⟩ v) (HP.pt b (c.setIfInBounds i v) T :: L) := by
  refine Sep.upd (L := [HP.pt b c T]) (L' := [HP.pt b (c.setIfInBounds i v) T]) (R := L) h rfl rfl rfl (by simp [World.setCell]) fun S hS => ?_
  rw [SepOn.one] at hS
  refine ⟨fun k hk hn => Below.heap_setCell _ _ _ _ (fun e => hn ((hS.1 k).2 e)), S, SepOn.one.2 ⟨hS.1, ?_⟩, fun k hk => .inl hk⟩
  simp [World.setCell, Array.getElem?_modify, hS.2]

/-- Behind a law of the kit's that ends in 'ownsRow' and 'grownBy' (an append, a make). -/
theorem Sep.grown {w w' : World} {e e' : TypeId} {size size' : Nat} {v v' : Value} {n n' : Nat} {xs xs' : List Value} {L : List HP} (h : Sep w (HP.row e size v n xs :: L))
    (ho : w'.ownsRow 0 e' size' v' n' xs') (hg : w.grownBy w' v.ownBlock) (hv : ∀ k, v'.ownBlock = some k → v.ownBlock = some k ∨ w.heap.size ≤ k) : Sep w' (HP.row e' size' v' n' xs' :: L) := by
  refine Sep.upd (L := [HP.row e size v n xs]) (L' := [HP.row e' size' v' n' xs']) (R := L) h hg.os hg.tape hg.output hg.size fun S hS => ?_
  rw [SepOn.one] at hS
  exact ⟨fun k hk hn => hg.block k hk (fun e => hn ((hS.1 k).2 e.symm)), fun k => v'.ownBlock = some k, SepOn.one.2 ⟨fun k => Iff.rfl, ho⟩, fun k hk => (hv k hk).imp (fun h => (hS.1 k).2 h) id⟩

/-- A slice that owns something lies open: its block. -/
theorem Sep.row_open {w : World} {e : TypeId} {size : Nat} {v : Value} {n : Nat} {xs : List Value} {L : List HP} (h : Sep w (HP.row e size v n xs :: L)) (hn : n ≠ 0) :
    ∃ g cap cur, v = .slice (some ⟨g, 0, none⟩) n cap ∧ n ≤ cap ∧ cap ≤ maxLen ∧ cur.size = cap * size ∧ cur.toList.take (n * size) = xs ∧ Sep w (HP.pt g cur e :: L) := by
  obtain ⟨S, S1, S2, h1, h2, ⟨h3, h4⟩, h5⟩ := h
  rcases h4.2 with ⟨_, h0⟩ | ⟨g, cap, cur, rfl, _, hg, hnc, hcm, hcs, htake⟩
  · exact absurd h0 hn
  · exact ⟨g, cap, cur, rfl, hnc, hcm, hcs, htake, S, S1, S2, h1, h2, ⟨fun k => by rw [h3 k]; simp [Value.ownBlock]; exact eq_comm, hg⟩, h5⟩

/-- .. and is shut again. -/
theorem Sep.row_shut {w : World} {e : TypeId} {size : Nat} {g n cap : Nat} {cur : Array Value} {xs : List Value} {L : List HP} (h : Sep w (HP.pt g cur e :: L))
    (hnc : n ≤ cap) (hcm : cap ≤ maxLen) (hcs : cur.size = cap * size) (ht : cur.toList.take (n * size) = xs) : Sep w (HP.row e size (.slice (some ⟨g, 0, none⟩) n cap) n xs :: L) := by
  obtain ⟨S, S1, S2, h1, h2, ⟨h3, h4⟩, h5⟩ := h
  refine ⟨S, S1, S2, h1, h2, ⟨fun k => by rw [h3 k]; simp [Value.ownBlock]; exact eq_comm, ?_, .inr ⟨g, cap, cur, rfl, Nat.zero_le _, h4, hnc, hcm, hcs, ht⟩⟩, h5⟩
  rw [← ht, List.length_take, Array.length_toList, hcs]
  exact Nat.min_eq_left (Nat.mul_le_mul_right _ hnc)

/-- Whatever it owns, it is a slice. -/
theorem Sep.row_form {w : World} {e : TypeId} {size : Nat} {v : Value} {n : Nat} {xs : List Value} {L : List HP} (h : Sep w (HP.row e size v n xs :: L)) : ∃ a cap, v = .slice a n cap := by
  rcases h.owns.2 with ⟨rfl, rfl⟩ | ⟨g, cap, cur, rfl, _⟩
  · exact ⟨_, _, rfl⟩
  · exact ⟨_, _, rfl⟩

theorem Sep.row_length {w : World} {e : TypeId} {size : Nat} {v : Value} {n : Nat} {xs : List Value} {L : List HP} (h : Sep w (HP.row e size v n xs :: L)) : xs.length = n * size := h.owns.1

/-- An element of an owned row of one-cell elements. -/
theorem take_get {cur : Array Value} {n : Nat} {xs : List Value} (ht : cur.toList.take n = xs) {i : Nat} {u : Value} (h : xs[i]? = some u) : cur[i]? = some u := by
  rw [← ht, List.getElem?_take] at h
  split at h
  · simpa using h
  · cases h

#print axioms Sep.grown
end Go.Proofs.Ytglinpclcmmnbaa
