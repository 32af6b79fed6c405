/- Words that begin right: plain. -/
import Derived.Test.YtmihlbecmagmbaaWordPlain
namespace Go.Proofs.Ytmihlbecmagmbaa

/-- The lengths of m missing words, of which the first one has k letters more. -/
def initK (k : Nat) : Nat → List Int
  | 0 => []
  | m + 1 => ((k : Int) + 3) :: List.replicate m 3
theorem initK_len (k m : Nat) : (initK k m).length = m := by cases m <;> simp [initK]
theorem initK_ge (k m : Nat) : ∀ x ∈ initK k m, (3 : Int) ≤ x := by
  intro x hx
  cases m with
  | zero => cases hx
  | succ m =>
    rcases List.mem_cons.1 hx with rfl | hx
    · omega
    · rw [List.eq_of_mem_replicate hx]; omega

def RelB (k m : Nat) (d : Int) : List (Int × Bool) → List Int → Prop
  | [], t => t = initK k m
  | [(n, true)], x :: r => x = n + d ∧ ∀ y ∈ r, y = (3 : Int)
  | (n, false) :: s, x :: t => x = n ∧ RelB k m d s t
  | _, _ => False
def AllShut (s : List (Int × Bool)) : Prop := ∀ x ∈ s, x.2 = false
theorem initK_cons {k m : Nat} {x : Int} {r : List Int} (h : x :: r = initK k m) : x = k + 3 ∧ ∀ y ∈ r, y = 3 := by
  cases m with
  | zero => cases h
  | succ m =>
    simp only [initK, List.cons.injEq] at h
    obtain ⟨rfl, rfl⟩ := h
    exact ⟨rfl, fun y hy => List.eq_of_mem_replicate hy⟩
theorem RelB.shut {k m : Nat} {d d' : Int} : ∀ {s : List (Int × Bool)} {t : List Int}, RelB k m d s t → AllShut s → RelB k m d' s t
  | [], _t, h, _ => h
  | [(_n, true)], _, _, hs => Bool.noConfusion (hs _ (List.mem_cons_self ..))
  | (_n, true) :: _ :: _, _, _, hs => Bool.noConfusion (hs _ (List.mem_cons_self ..))
  | (_n, false) :: _s, _x :: _t, h, hs => ⟨h.1, RelB.shut h.2 fun x hx => hs x (List.mem_cons_of_mem _ hx)⟩
  | (_n, false) :: _s, [], h, _ => h.elim

theorem begins_to : ∀ (l : List UInt8) (s : List (Int × Bool)) (m0 m : Nat), stk l = some s → miss m0 l = some m →
    ∃ K : Nat, K ≤ l.length ∧ (AllShut s → K = 0) ∧ ∀ k, K ≤ k → goodB l (initK k m) = true ∧ ∃ t, st l (initK k m) = some t ∧ RelB k m (k - K) s t
  | [], s, m0, m, h, _ => by
    simp [stk] at h
    subst h
    exact ⟨0, by simp, fun _ => rfl, fun k _ => ⟨rfl, _, rfl, rfl⟩⟩
  | c :: l, s', m0, m, h, hm => by
    obtain ⟨a, s, h1, h2, h3, rfl⟩ := stk_cons.1 h
    have hm1 : m0 ≠ 0 ∧ miss (m0 - 1 + a.takes) l = some m := by
      simp only [miss, h1] at hm
      split at hm
      · cases hm
      · exact ⟨by assumption, hm⟩
    obtain ⟨K, hK, hK0, H⟩ := begins_to l s _ m h2 hm1.2
    have hge := begins_of.stk_ge h2
    -- what the new spans need
    suffices G : ∃ K' : Nat, K ≤ K' ∧ K' ≤ K + 1 ∧ (AllShut ((wordS a s).1 :: (wordS a s).2) → K' = 0) ∧ ∀ k, K' ≤ k → ∀ t, a.takes ≤ t.length → RelB k m (k - K) s t → ∃ x t', stepI a t = some (x :: t') ∧ 3 ≤ x ∧ RelB k m (k - K') ((wordS a s).1 :: (wordS a s).2) (x :: t') by
      obtain ⟨K', g1, g2, g3, g4⟩ := G
      refine ⟨K', by simp only [List.length_cons]; omega, g3, fun k hk => ?_⟩
      obtain ⟨e1, t, e2, e3⟩ := H k (by omega)
      have htl : t.length = m0 - 1 + a.takes := by
        obtain ⟨t2, f1, f2⟩ := miss_st l _ m (initK k m) hm1.2 (initK_len k m)
        rw [e2] at f1
        rw [Option.some.inj f1]; exact f2
      obtain ⟨x, t', f1, f2, f3⟩ := g4 k hk t (by omega) e3
      have f4 := st_cons.2 ⟨a, t, h1, e2, f1⟩
      exact ⟨good_cons.2 ⟨e1, x, t', f4, f2⟩, x :: t', f4, f3⟩
    cases a with
    | E =>
      refine ⟨K, by omega, by omega, fun hs => hK0 fun x hx => hs x (List.mem_cons_of_mem _ hx), fun k _ t _ hr => ⟨3, t, rfl, by omega, rfl, hr⟩⟩
    | C =>
      rcases s with _ | ⟨⟨n, _ | _⟩, s⟩
      · have := hK0 fun x hx => by cases hx
        refine ⟨1, by omega, by omega, fun hs => Bool.noConfusion (hs _ (List.mem_cons_self ..)), fun k hk t ht hr => ?_⟩
        rcases t with _ | ⟨x, t⟩
        · simp [Lt.takes] at ht
        obtain ⟨e1, e2⟩ := initK_cons hr
        refine ⟨x - 1, t, rfl, by omega, ?_, e2⟩
        simp only [popS, if_true]
        omega
      · refine ⟨K, by omega, by omega, fun hs => hK0 fun x hx => ?_, fun k _ t ht hr => ?_⟩
        · rcases List.mem_cons.1 hx with rfl | hx
          · rfl
          · exact hs x (List.mem_cons_of_mem _ hx)
        rcases t with _ | ⟨x, t⟩
        · simp [Lt.takes] at ht
        obtain ⟨rfl, hr⟩ := hr
        simp only [wordS, popS, Bool.false_eq_true, if_false] at h3 ⊢
        exact ⟨x - 1, t, rfl, h3, rfl, hr⟩
      · rcases s with _ | ⟨z, s⟩
        · have hn := hge _ (List.mem_cons_self ..)
          simp only at hn
          by_cases h4 : 4 ≤ n
          · refine ⟨K, by omega, by omega, fun hs => Bool.noConfusion (hs _ (List.mem_cons_self ..)), fun k hk t ht hr => ?_⟩
            rcases t with _ | ⟨x, t⟩
            · simp [Lt.takes] at ht
            obtain ⟨e1, e2⟩ := hr
            refine ⟨x - 1, t, rfl, by omega, ?_, e2⟩
            simp only [popS, if_true]
            omega
          · refine ⟨K + 1, by omega, by omega, fun hs => Bool.noConfusion (hs _ (List.mem_cons_self ..)), fun k hk t ht hr => ?_⟩
            rcases t with _ | ⟨x, t⟩
            · simp [Lt.takes] at ht
            obtain ⟨e1, e2⟩ := hr
            refine ⟨x - 1, t, rfl, by omega, ?_, e2⟩
            simp only [popS, if_true]
            omega
        · refine ⟨K, by omega, by omega, fun hs => Bool.noConfusion (hs _ (List.mem_cons_self ..)), fun k hk t ht hr => ?_⟩
          rcases t with _ | ⟨x, t⟩
          · simp [Lt.takes] at ht
          exact hr.elim
    | R | L =>
      rcases s with _ | ⟨⟨n, _ | _⟩, s⟩
      · have := hK0 fun x hx => by cases hx
        refine ⟨0, by omega, by omega, fun hs => Bool.noConfusion (hs _ (List.mem_cons_self ..)), fun k hk t ht hr => ?_⟩
        rcases t with _ | ⟨x, t⟩
        · simp [Lt.takes] at ht
        obtain ⟨e1, e2⟩ := initK_cons hr
        refine ⟨x + 1, t, rfl, by omega, ?_, e2⟩
        simp only [popS]
        omega
      · refine ⟨K, by omega, by omega, fun hs => hK0 fun x hx => ?_, fun k _ t ht hr => ?_⟩
        · rcases List.mem_cons.1 hx with rfl | hx
          · rfl
          · exact hs x (List.mem_cons_of_mem _ hx)
        rcases t with _ | ⟨x, t⟩
        · simp [Lt.takes] at ht
        obtain ⟨rfl, hr⟩ := hr
        simp only [wordS, popS] at h3 ⊢
        exact ⟨x + 1, t, rfl, h3, rfl, hr⟩
      · refine ⟨K, by omega, by omega, fun hs => Bool.noConfusion (hs _ (List.mem_cons_self ..)), fun k hk t ht hr => ?_⟩
        have hn := hge _ (List.mem_cons_self ..)
        simp only at hn
        rcases t with _ | ⟨x, t⟩
        · simp [Lt.takes] at ht
        rcases s with _ | ⟨z, s⟩
        · obtain ⟨e1, e2⟩ := hr
          refine ⟨x + 1, t, rfl, by omega, ?_, e2⟩
          simp only [popS]
          omega
        · exact hr.elim
    | S =>
      rcases s with _ | ⟨⟨n, _ | _⟩, s⟩
      · have := hK0 fun x hx => by cases hx
        refine ⟨0, by omega, by omega, fun hs => Bool.noConfusion (hs _ (List.mem_cons_self ..)), fun k hk t ht hr => ?_⟩
        rcases t with _ | ⟨x, _ | ⟨y, t⟩⟩
        · simp [Lt.takes] at ht
        · simp [Lt.takes] at ht
        obtain ⟨e1, e2⟩ := initK_cons hr
        have e3 := e2 y (List.mem_cons_self ..)
        refine ⟨x + y - 1, t, rfl, by omega, ?_, fun z hz => e2 z (List.mem_cons_of_mem _ hz)⟩
        simp only [popS]
        omega
      · have hn := hge _ (List.mem_cons_self ..)
        simp only at hn
        rcases s with _ | ⟨⟨n2, _ | _⟩, s⟩
        · have := hK0 fun x hx => by simp at hx; subst hx; rfl
          refine ⟨0, by omega, by omega, fun hs => Bool.noConfusion (hs _ (List.mem_cons_self ..)), fun k hk t ht hr => ?_⟩
          rcases t with _ | ⟨x, _ | ⟨y, t⟩⟩
          · simp [Lt.takes] at ht
          · simp [Lt.takes] at ht
          obtain ⟨rfl, hr⟩ := hr
          obtain ⟨e1, e2⟩ := initK_cons hr
          refine ⟨x + y - 1, t, rfl, by omega, ?_, e2⟩
          simp only [popS]
          omega
        · refine ⟨K, by omega, by omega, fun hs => hK0 fun x hx => ?_, fun k _ t ht hr => ?_⟩
          · rcases List.mem_cons.1 hx with rfl | hx
            · rfl
            rcases List.mem_cons.1 hx with rfl | hx
            · rfl
            · exact hs x (List.mem_cons_of_mem _ hx)
          rcases t with _ | ⟨x, _ | ⟨y, t⟩⟩
          · simp [Lt.takes] at ht
          · simp [Lt.takes] at ht
          obtain ⟨rfl, rfl, hr⟩ := hr
          simp only [wordS, popS] at h3 ⊢
          exact ⟨x + y - 1, t, rfl, h3, rfl, hr⟩
        · refine ⟨K, by omega, by omega, fun hs => Bool.noConfusion (hs _ (List.mem_cons_self ..)), fun k hk t ht hr => ?_⟩
          rcases t with _ | ⟨x, _ | ⟨y, t⟩⟩
          · simp [Lt.takes] at ht
          · simp [Lt.takes] at ht
          have hn2 := hge _ (List.mem_cons_of_mem _ (List.mem_cons_self ..))
          simp only at hn2
          rcases s with _ | ⟨z, s⟩
          · obtain ⟨rfl, e1, e2⟩ := hr
            refine ⟨x + y - 1, t, rfl, by omega, ?_, e2⟩
            simp only [popS]
            omega
          · exact hr.2.elim
      · refine ⟨K, by omega, by omega, fun hs => Bool.noConfusion (hs _ (List.mem_cons_self ..)), fun k hk t ht hr => ?_⟩
        have hn := hge _ (List.mem_cons_self ..)
        simp only at hn
        rcases t with _ | ⟨x, _ | ⟨y, t⟩⟩
        · simp [Lt.takes] at ht
        · simp [Lt.takes] at ht
        rcases s with _ | ⟨z, s⟩
        · obtain ⟨e1, e2⟩ := hr
          have e3 := e2 y (List.mem_cons_self ..)
          refine ⟨x + y - 1, t, rfl, by omega, ?_, fun z hz => e2 z (List.mem_cons_of_mem _ hz)⟩
          simp only [popS]
          omega
        · exact hr.elim

end Go.Proofs.Ytmihlbecmagmbaa
