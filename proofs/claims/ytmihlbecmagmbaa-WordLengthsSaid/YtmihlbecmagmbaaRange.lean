/- A range over a function, told of my own assertions. No program in sight. -/
import Derived.Test.YtmihlbecmagmbaaSepStep
import Derived.RangeFuncNested
import Derived.RangeFuncBound
import Derived.RangeFuncCalls
import Derived.RangeFuncLeaves
namespace Go.Proofs.Ytmihlbecmagmbaa
open Go.RowKit

/-- A block that is no cells. -/
def HP.obj (k : Nat) (o : Obj) : HP where
  holds w S := (∀ j, S j ↔ j = k) ∧ w.heap[k]? = some o
  loc w w' S ha h := ⟨h.1, (ha.block k ((h.1 k).2 rfl)).trans h.2⟩
  bnd w S h j hj := by
    obtain rfl := (h.1 j).1 hj
    exact (Array.getElem?_eq_some_iff.1 h.2).1
  ext w S S' he h := ⟨fun k => (he k).symm.trans (h.1 k), h.2⟩

theorem Sep.obj_get {w : World} {k : Nat} {o : Obj} {L : List HP} (h : Sep w (HP.obj k o :: L)) : w.heap[k]? = some o := by
  obtain ⟨S, S1, S2, h1, h2, h3, h4⟩ := h; exact h3.2
theorem Sep.obj_new {w : World} {L : List HP} (h : Sep w L) (o : Obj) : Sep (w.alloc o) (HP.obj w.heap.size o :: L) := by
  refine Sep.upd (L := []) (L' := [HP.obj w.heap.size o]) (R := L) h rfl rfl rfl (by simp) fun S hS => ⟨fun k hk _ => Below.heap_alloc _ _ _ hk, fun k => k = w.heap.size, ⟨_, fun _ => False, fun k => by simp, fun k _ h => h, ⟨fun k => Iff.rfl, heap_alloc_new w _⟩, fun k h => h⟩, fun k hk => .inr (by omega)⟩
theorem Sep.obj_put {w : World} {k : Nat} {o : Obj} {L : List HP} (h : Sep w (HP.obj k o :: L)) (o' : Obj) : Sep (w.putObj k o') (HP.obj k o' :: L) := by
  have hlt := (Array.getElem?_eq_some_iff.1 h.obj_get).1
  refine Sep.upd (L := [HP.obj k o]) (L' := [HP.obj k o']) (R := L) h rfl rfl rfl (by simp [World.putObj]) fun S hS => ?_
  rw [SepOn.one] at hS
  refine ⟨fun j hj hn => World.putObj_heap_other (fun e => hn ((hS.1 j).2 (by first | exact e.symm | exact e))), S, SepOn.one.2 ⟨hS.1, World.putObj_heap_same hlt⟩, fun j hj => .inl hj⟩

/-- How the body of a round may be left. -/
def sepPost (I : HP) (Ix : Code → HP) (R : List HP) : Exit → Act → World → Prop
  | .normal, _, W => Sep W (I :: R)
  | .ret, _, W => Sep W (Ix .ret :: R)
  | .exit id, _, W => Sep W (Ix (.exit id) :: R)
  | .goto t, _, W => Sep W (Ix (.goto t) :: R)
  | .panic _, _, _ => False
  | .outgrown, _, _ => False

theorem wp_rangeFunc_sep {P : Program} {g : Operand} {ps : Array Tmp} {assign body : Code} {Q : Exit → Act → World → Prop} {a : Act} {w : World}
    {gf : Nat} {lb : Array Value} (hg : a.eval g = .func (.func gf) #[] lb) (eg : ∀ args w, (callFunc gf args).run P w = .ok (.enter gf args) w)
    {encs : Nat → Array Value} {N : Nat} {R : List HP}
    (hseq : ∀ (l : Nat) (J : Nat → World → Prop) (Jx : World → Prop) (W : World), (∀ k W1, J k W1 → ∃ L, Sep W1 (L ++ R)) →
      (∀ k W1, J k W1 → k < N → YieldAt Fence.wide 7 P l (encs k) W1 fun e W' => (e = .returned (.bool true) ∧ J (k + 1) W') ∨ (e = .returned (.bool false) ∧ Jx W')) →
      J 0 W → CallsIn Fence.wide 8 P gf (#[.func (.yield l) #[] #[]] ++ lb) W fun e W' => (∃ v, e = .returned v) ∧ (J N W' ∨ Jx W'))
    (hps : ∀ x, (encs x).size = ps.size)
    (I : Nat → HP) (Ix : Code → HP) (h0 : Sep w (I 0 :: R)) (a₁ : Nat → Act)
    (hassign : ∀ (l : Nat) (k : Nat) (W : World) (K : Act → World → Prop), K (a₁ k) W →
      assign.wpIn (Fence.wide.inRound l) 7 P (Exit.then K (fun _ _ _ => False)) { tmps := (ps.zip (encs k)).foldl (fun t (p, v) => t.setIfInBounds p v) a.tmps, defers := [] } W)
    (hbody : ∀ (l : Nat) (k : Nat) (R' : List HP) (W : World), Sep W (I k :: R') → k < N → body.wpIn (Fence.wide.inRound l) 7 P (sepPost (I (k + 1)) Ix R') (a₁ k) W)
    (hdone : ∀ (D : Nat) (W : World), Sep W (I N :: HP.obj D (.deferred (some [])) :: R) → Q .normal { a with defers := { target := .collected D, args := #[] } :: a.defers } W)
    (hstop : ∀ (D : Nat) (c : Code) (W : World), Sep W (Ix c :: HP.obj D (.deferred (some [])) :: R) → c.wp P Q { a with defers := { target := .collected D, args := #[] } :: a.defers } W) :
    (Code.rangeFunc g ps assign body).wp P Q a w := by
  refine (wpIn_wide (n := 9)).1 (wpIn_rangeFunc ?_)
  intro fn hfn
  obtain ⟨rec, hrec⟩ : ∃ rec : LoopState → Option Code → Loop, rec = fun st pe => { state := st, pending := pe, fn, tmps := a.tmps, params := ps, assign, body, defers := w.heap.size } := ⟨_, rfl⟩
  obtain ⟨W1, hW1⟩ : ∃ W1, (w.alloc (.deferred (some []))).alloc (.loop (rec .ready none)) = W1 := ⟨_, rfl⟩
  have H1 : Sep W1 (I 0 :: HP.obj (w.heap.size + 1) (.loop (rec .ready none)) :: HP.obj w.heap.size (.deferred (some [])) :: R) := by
    have := ((h0.obj_new (.deferred (some []))).obj_new (.loop (rec .ready none))).rot3
    rw [World.size_alloc, hW1] at this
    exact this
  refine ⟨w.heap.size + 1, [{ target := .collected w.heap.size, args := #[] }], W1, { target := .fn (.func gf) lb, args := #[.func (.yield (w.heap.size + 1)) #[] #[]] }, W1, gf,
    #[.func (.yield (w.heap.size + 1)) #[] #[]] ++ lb, W1, ?_, ?_, ?_, ?_, fun h => (by cases h), ?_⟩
  · rw [← hW1, hrec]; exact run_enterLoop_outer _ _ _ _ _
  · simp only [resolve, hg]
    simp [go_sem]
  · intro f' _; trivial
  · simp [invoke, go_sem, eg]
  · refine (hseq (w.heap.size + 1)
      (fun k W => Sep W (I k :: HP.obj (w.heap.size + 1) (.loop (rec .ready none)) :: HP.obj w.heap.size (.deferred (some [])) :: R))
      (fun W => ∃ c, Sep W (Ix c :: HP.obj (w.heap.size + 1) (.loop (rec .done (some c))) :: HP.obj w.heap.size (.deferred (some [])) :: R))
      W1 (fun k W h => ⟨_, (show Sep W ([_, _, _] ++ R) from h)⟩) ?_ H1).mono ?_
    · -- one round
      intro k W H hlt
      have hl := H.tail.obj_get
      have hy := run_yield (P := P) (args := encs k) hl (by rw [hrec]; exact hps k)
      rw [hrec] at hy
      refine ⟨fn, _, assign, body, hy, roundIn_of_wpIn hfn (hassign _ k W _ ⟨_, run_beginRound hl (by rw [hrec]), ?_⟩)⟩
      have H2 := (H.swap.obj_put (.loop { rec .ready none with state := .busy })).swap
      refine wpIn_mono (hbody _ k _ _ H2 hlt) ?_
      have fin : ∀ (X : HP) (jump : Option Code) (W3 : World), Sep W3 (X :: HP.obj (w.heap.size + 1) (.loop { rec .ready none with state := .busy }) :: HP.obj w.heap.size (.deferred (some [])) :: R) →
          (Instr.endRound (w.heap.size + 1) jump).run P W3 = .ok (.bool jump.isNone) (W3.putObj (w.heap.size + 1) (.loop (rec (if jump.isNone then .ready else .done) jump))) ∧
          Sep (W3.putObj (w.heap.size + 1) (.loop (rec (if jump.isNone then .ready else .done) jump))) (X :: HP.obj (w.heap.size + 1) (.loop (rec (if jump.isNone then .ready else .done) jump)) :: HP.obj w.heap.size (.deferred (some [])) :: R) := fun X jump W3 H3 => by
        have hl3 := H3.tail.obj_get
        have := run_endRound (P := P) jump hl3
        have H4 := (H3.swap.obj_put (.loop (rec (if jump.isNone then .ready else .done) jump))).swap
        rw [hrec] at this H4 ⊢
        exact ⟨this, H4⟩
      rintro e a3 W3 hp
      cases e with
      | normal =>
        obtain ⟨hr, H4⟩ := fin _ none W3 hp
        exact ⟨_, _, hr, .inl ⟨rfl, H4⟩⟩
      | ret =>
        obtain ⟨hr, H4⟩ := fin _ (some .ret) W3 hp
        exact ⟨_, _, hr, .inr ⟨rfl, .ret, H4⟩⟩
      | exit id =>
        obtain ⟨hr, H4⟩ := fin _ (some (.exit id)) W3 hp
        exact ⟨_, _, hr, .inr ⟨rfl, .exit id, H4⟩⟩
      | goto t =>
        obtain ⟨hr, H4⟩ := fin _ (some (.goto t)) W3 hp
        exact ⟨_, _, hr, .inr ⟨rfl, .goto t, H4⟩⟩
      | panic ch => exact hp.elim
      | outgrown => exact hp.elim
    · -- behind the iterator
      rintro e W2 ⟨⟨v, rfl⟩, (H | ⟨c, H⟩)⟩
      · have hl := H.tail.obj_get
        exact ⟨none, _, by have := run_endLoop (P := P) hl (by rw [hrec]; simp); rw [hrec] at this; exact this, hdone _ _ (H.swap.obj_put _).tail⟩
      · have hl := H.tail.obj_get
        exact ⟨some c, _, by have := run_endLoop (P := P) hl (by rw [hrec]; simp); rw [hrec] at this; exact this, wpIn_wide.2 (hstop _ c _ (H.swap.obj_put _).tail)⟩

end Go.Proofs.Ytmihlbecmagmbaa
