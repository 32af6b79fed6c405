/- The kit's laws on append, said of 'Sep'. No program in sight. -/
import Derived.Test.YtglinpclcmmnbaaSep
import Derived.WalkKit
import Derived.Laws.AppendOwnNone
namespace Go.Proofs.Ytglinpclcmmnbaa
open Go.RowKit

/-- What run_append_own gives, and besides: the new row is the old one or a new one. -/
theorem run_append_sep {P : Program} {w : World} (t ty e : TypeId) (i : TypeInfo) (z : Value) (size bytes : Nat) (ht : P.underlying t = some (.slice e)) (hi : P.info? e = some i) (hz : i.zero = some z)
    (hsize : i.size = size) (hby : i.bytes = bytes) (hzs : z.cells.size = size) (hsz : 0 < size)
    (v : Value) (n : Nat) (xs : List Value) {R : List HP} (H : Sep w (HP.row e size v n xs :: R))
    (a : Addr) (m c : Nat) (news : List Value) (hl : news.length = m * size) (hnews : ∀ j u, news[j]? = some u → w.cell? (a.add j) = some u) (h1 : ∀ u ∈ news, u.oneCell' = true)
    (h63 : n + m ≤ maxLen) (hbytes : (n + m) * bytes ≤ 140737488355328) :
    ∃ v' w', (Builtin.append_ #[t, t] ty #[v, .slice (some a) m c]).run P w = .ok v' w' ∧ Sep w' (HP.row e size v' (n + m) (xs ++ news) :: R) := by
  have hown := H.owns
  obtain ⟨v', w', hr, h2, h3, _⟩ := run_append_own (P := P) w 0 t ty e i z size bytes ht hi hz hsize hby hzs hsz v n xs hown a m c news hl hnews h1 h63 hbytes (Nat.zero_le _)
  refine ⟨v', w', hr, H.grown h2 h3 fun k hk => ?_⟩
  rcases hown.2 with ⟨rfl, rfl⟩ | ⟨g, cap, cur, rfl, hbg, hg, hnc, hcm, hcs, htake⟩
  · have hx : xs = [] := List.eq_nil_of_length_eq_zero (by simpa using hown.1)
    subst hx
    obtain ⟨v2, w2, hr2, g2, _, _⟩ := run_append_own (P := P) w w.heap.size t ty e i z size bytes ht hi hz hsize hby hzs hsz (.slice none 0 0) 0 [] (World.ownsRow_nil _ _ _ _) a m c news hl hnews h1 h63 hbytes (Nat.le_refl _)
    rw [hr] at hr2
    simp only [Result.ok.injEq] at hr2
    obtain ⟨rfl, rfl⟩ := hr2
    exact .inr (g2.lt k hk).1
  · subst hsize
    by_cases hroom : n + m ≤ cap
    · have hfit : n * i.size + news.length ≤ cur.size := by rw [hl, hcs, ← Nat.add_mul]; exact Nat.mul_le_mul_right _ hroom
      have hr2 := run_append_room (P := P) w t ty e i ht hi g n cap cur hg a m c news hl hnews h1 hroom hfit
      rw [hr] at hr2
      simp only [Result.ok.injEq] at hr2
      obtain ⟨rfl, rfl⟩ := hr2
      exact .inl hk
    · subst hby
      have holds : ∀ j u, xs[j]? = some u → w.cell? ((⟨g, 0, none⟩ : Addr).add j) = some u := hown.cells (g := g) rfl
      have hr2 := run_append_grow (P := P) w t ty e i z ht hi hz ⟨g, 0, none⟩ n cap xs hown.1 holds a m c news hl hnews (by omega) (by simp only [maxLen] at h63; omega) (growslice_fits (by omega) hbytes)
      rw [hr] at hr2
      simp only [Result.ok.injEq] at hr2
      obtain ⟨rfl, rfl⟩ := hr2
      simp [Value.ownBlock] at hk
      exact .inr (by omega)

theorem wp_append_sep {P : Program} {w : World} {o : Oper} {a : Act} {K : Act → World → Prop} {Q : Exit → Act → World → Prop} (s x : Operand) (t : TypeId)
    (ho : o.op = .call { callee := .builtin .append, args := #[s, x], argTypes := #[t, t] })
    (e : TypeId) (i : TypeInfo) (z : Value) (size bytes : Nat) (ht : P.underlying t = some (.slice e)) (hi : P.info? e = some i) (hz : i.zero = some z)
    (hsize : i.size = size) (hby : i.bytes = bytes) (hzs : z.cells.size = size) (hsz : 0 < size)
    (v : Value) (n : Nat) (xs : List Value) {R : List HP} (hs : a.eval s = v) (H : Sep w (HP.row e size v n xs :: R))
    (ad : Addr) (m c : Nat) (news : List Value) (hx : a.eval x = .slice (some ad) m c) (hl : news.length = m * size) (hnews : ∀ j u, news[j]? = some u → w.cell? (ad.add j) = some u) (h1 : ∀ u ∈ news, u.oneCell' = true)
    (h63 : n + m ≤ maxLen) (hbytes : (n + m) * bytes ≤ 140737488355328)
    (h : ∀ v' w', Sep w' (HP.row e size v' (n + m) (xs ++ news) :: R) → K (a.put o.dst v') w') : o.wp P a w K Q := by
  obtain ⟨v', w', hr, h2⟩ := run_append_sep (P := P) t o.type e i z size bytes ht hi hz hsize hby hzs hsz v n xs H ad m c news hl hnews h1 h63 hbytes
  unfold Oper.wp execOp
  simp only [ho, resolve, invoke, builtin, Sem.run_bind, Sem.run_pure, Result.andThen_ok, List.map_toArray, List.map_cons, List.map_nil, hs, hx, hr]
  exact h v' w' h2

theorem wpList_append_sep {P : Program} {w : World} {ops : Array Oper} {rest : List Oper} {o : Oper} {a : Act} {Q : Exit → Act → World → Prop} (hgd : o.guard = none) (s x : Operand) (t : TypeId)
    (ho : o.op = .call { callee := .builtin .append, args := #[s, x], argTypes := #[t, t] })
    (e : TypeId) (i : TypeInfo) (z : Value) (size bytes : Nat) (ht : P.underlying t = some (.slice e)) (hi : P.info? e = some i) (hz : i.zero = some z)
    (hsize : i.size = size) (hby : i.bytes = bytes) (hzs : z.cells.size = size) (hsz : 0 < size)
    (v : Value) (n : Nat) (xs : List Value) {R : List HP} (hs : a.eval s = v) (H : Sep w (HP.row e size v n xs :: R))
    (ad : Addr) (m c : Nat) (news : List Value) (hx : a.eval x = .slice (some ad) m c) (hl : news.length = m * size) (hnews : ∀ j u, news[j]? = some u → w.cell? (ad.add j) = some u) (h1 : ∀ u ∈ news, u.oneCell' = true)
    (h63 : n + m ≤ maxLen) (hbytes : (n + m) * bytes ≤ 140737488355328)
    (h : ∀ v' w', Sep w' (HP.row e size v' (n + m) (xs ++ news) :: R) → wpList P ops Q rest (a.put o.dst v') w') : wpList P ops Q (o :: rest) a w :=
  wpList_plain hgd fun _ hK => wp_append_sep s x t ho e i z size bytes ht hi hz hsize hby hzs hsz v n xs hs H ad m c news hx hl hnews h1 h63 hbytes fun v' w' h2 => hK _ _ (h v' w' h2)

/-- One element: the slice literal's own block, as the walk lays it. -/
theorem wpList_append_one {P : Program} {w : World} {ops : Array Oper} {rest : List Oper} {o : Oper} {a : Act} {Q : Exit → Act → World → Prop} (hgd : o.guard = none) (s x : Operand) (t : TypeId)
    (ho : o.op = .call { callee := .builtin .append, args := #[s, x], argTypes := #[t, t] })
    (e : TypeId) (z : Value) (bytes : Nat) (ht : P.underlying t = some (.slice e)) (hinfo : (P.info? e).map (fun i => (i.zero, i.size, i.bytes)) = some (some z, 1, bytes)) (hzs : z.cells.size = 1)
    (v : Value) (n : Nat) (xs : List Value) {R : List HP} (u : Value) (h1 : u.oneCell' = true) (hs : a.eval s = v) (H : Sep w (HP.row e 1 v n xs :: R))
    (hx : a.eval x = .slice (some ⟨w.heap.size, 0, none⟩) 1 1) (h63 : n + 1 ≤ maxLen) (hbytes : (n + 1) * bytes ≤ 140737488355328)
    (h : ∀ g cap w', Sep w' (HP.row e 1 (.slice (some ⟨g, 0, none⟩) (n + 1) cap) (n + 1) (xs ++ [u]) :: R) → wpList P ops Q rest (a.put o.dst (.slice (some ⟨g, 0, none⟩) (n + 1) cap)) w') : wpList P ops Q (o :: rest) a (w.alloc (.cells #[u] e)) := by
  obtain ⟨i, hi, hz, hs1, hb⟩ := info_parts hinfo
  have H' : Sep (w.alloc (.cells #[u] e)) (HP.row e 1 v n xs :: HP.pt w.heap.size #[u] e :: R) := (H.alloc #[u] e).swap
  refine wpList_append_sep hgd s x t ho e i z 1 bytes ht hi hz hs1 hb hzs (by decide) v n xs hs H' ⟨w.heap.size, 0, none⟩ 1 1 [u] hx rfl ?_ ?_ h63 hbytes fun v' w' h2 => ?_
  · intro j y hj
    match j, hj with
    | 0, hj =>
      simp at hj; subst hj
      exact H'.swap.cell 0 rfl
  · intro y hy; simp at hy; subst hy; exact h1
  · have h3 := (h2.swap).tail
    obtain ⟨g, cap, _, rfl, _⟩ := h3.row_open (by omega)
    exact h g cap w' h3

/-- A slice whose elements can be read: n elements of 'size' cells each, all cells in one row. -/
def RdS (w : World) (v : Value) (n size : Nat) (xs : List Value) : Prop :=
  xs.length = n * size ∧ ((v = .slice none 0 0 ∧ n = 0) ∨ ∃ ad cap, v = .slice (some ad) n cap ∧ ∀ j u, xs[j]? = some u → w.cell? (ad.add j) = some u)

theorem addr_add (g o j : Nat) : (⟨g, o, none⟩ : Addr).add j = ⟨g, o + j, none⟩ := by
  unfold Addr.add; split <;> simp_all

theorem Sep.rd {w : World} {e : TypeId} {size : Nat} {v : Value} {n : Nat} {xs : List Value} {L : List HP} (h : Sep w (HP.row e size v n xs :: L)) : RdS w v n size xs := by
  refine ⟨h.row_length, ?_⟩
  rcases h.owns.2 with ⟨rfl, rfl⟩ | ⟨g, cap, cur, rfl, _⟩
  · exact .inl ⟨rfl, rfl⟩
  · exact .inr ⟨⟨g, 0, none⟩, cap, rfl, fun j u hu => h.owns.cells (g := g) rfl j u hu⟩

theorem RdS.form {w : World} {v : Value} {n size : Nat} {xs : List Value} (h : RdS w v n size xs) : ∃ a cap, v = .slice a n cap := by
  rcases h.2 with ⟨rfl, rfl⟩ | ⟨ad, cap, rfl, _⟩
  · exact ⟨_, _, rfl⟩
  · exact ⟨_, _, rfl⟩

/-- Behind nothing that touches its cells. -/
theorem RdS.mono {w w' : World} {v : Value} {n size : Nat} {xs : List Value} (h : RdS w v n size xs) (hc : ∀ (a : Addr) (u : Value), w.cell? a = some u → w'.cell? a = some u) : RdS w' v n size xs := by
  refine ⟨h.1, ?_⟩
  rcases h.2 with h | ⟨ad, cap, rfl, hh⟩
  · exact .inl h
  · exact .inr ⟨ad, cap, rfl, fun j u hu => hc _ _ (hh j u hu)⟩

theorem RdS.drew {w : World} {v : Value} {n size : Nat} {xs : List Value} (h : RdS w v n size xs) : RdS w.drew v n size xs := h
theorem RdS.drewN {w : World} {v : Value} {n size : Nat} {xs : List Value} (h : RdS w v n size xs) (k : Nat) : RdS (w.drewN k) v n size xs := h

theorem Sep.row_nil {w : World} {L : List HP} (h : Sep w L) (e : TypeId) (size : Nat) : Sep w (HP.row e size (.slice none 0 0) 0 [] :: L) := by
  obtain ⟨S, h⟩ := h
  exact ⟨S, fun _ => False, S, fun k => by simp, fun k h => h.elim, ⟨fun k => by simp [Value.ownBlock], World.ownsRow_nil _ _ _ _⟩, h⟩

/-- 'append(dst, src...)', whatever the source: nil or not, empty or not. -/
theorem wpList_append_src {P : Program} {w : World} {ops : Array Oper} {rest : List Oper} {o : Oper} {a : Act} {Q : Exit → Act → World → Prop} (hgd : o.guard = none) (s x : Operand) (t : TypeId)
    (ho : o.op = .call { callee := .builtin .append, args := #[s, x], argTypes := #[t, t] })
    (e : TypeId) (z : Value) (size bytes : Nat) (ht : P.underlying t = some (.slice e)) (hinfo : (P.info? e).map (fun i => (i.zero, i.size, i.bytes)) = some (some z, size, bytes)) (hzs : z.cells.size = size) (hsz : 0 < size)
    (v : Value) (n : Nat) (xs : List Value) {R : List HP} (hs : a.eval s = v) (H : Sep w (HP.row e size v n xs :: R))
    (sv : Value) (m : Nat) (news : List Value) (hx : a.eval x = sv) (hrd : RdS w sv m size news) (h1 : ∀ u ∈ news, u.oneCell' = true)
    (h63 : n + m ≤ maxLen) (hbytes : (n + m) * bytes ≤ 140737488355328)
    (h : ∀ v' w', Sep w' (HP.row e size v' (n + m) (xs ++ news) :: R) → wpList P ops Q rest (a.put o.dst v') w') : wpList P ops Q (o :: rest) a w := by
  obtain ⟨i, hi, hz, hs1, hb⟩ := info_parts hinfo
  rcases hrd.2 with ⟨rfl, rfl⟩ | ⟨ad, cap, rfl, hh⟩
  · have hn : news = [] := List.eq_nil_of_length_eq_zero (by simpa using hrd.1)
    subst hn
    refine wpList_append_own_none hgd s x t ho 0 e i size ht hi v n xs hs H.owns hx ?_
    refine h v w ?_
    simpa using H
  · exact wpList_append_sep hgd s x t ho e i z size bytes ht hi hz hs1 hb hzs hsz v n xs hs H ad m cap news hx hrd.1 hh h1 h63 hbytes h

/-- 'append([]T(nil), src...)'. -/
theorem wpList_append_copy {P : Program} {w : World} {ops : Array Oper} {rest : List Oper} {o : Oper} {a : Act} {Q : Exit → Act → World → Prop} (hgd : o.guard = none) (s x : Operand) (t : TypeId)
    (ho : o.op = .call { callee := .builtin .append, args := #[s, x], argTypes := #[t, t] })
    (e : TypeId) (z : Value) (size bytes : Nat) (ht : P.underlying t = some (.slice e)) (hinfo : (P.info? e).map (fun i => (i.zero, i.size, i.bytes)) = some (some z, size, bytes)) (hzs : z.cells.size = size) (hsz : 0 < size)
    {R : List HP} (hs : a.eval s = .slice none 0 0) (H : Sep w R)
    (sv : Value) (m : Nat) (news : List Value) (hx : a.eval x = sv) (hrd : RdS w sv m size news) (h1 : ∀ u ∈ news, u.oneCell' = true)
    (h63 : m ≤ maxLen) (hbytes : m * bytes ≤ 140737488355328)
    (h : ∀ b cap w', Sep w' (HP.row e size (.slice b m cap) m news :: R) → wpList P ops Q rest (a.put o.dst (.slice b m cap)) w') : wpList P ops Q (o :: rest) a w :=
  wpList_append_src hgd s x t ho e z size bytes ht hinfo hzs hsz (.slice none 0 0) 0 [] hs (H.row_nil e size) sv m news hx hrd h1 (by omega) (by rw [Nat.zero_add]; exact hbytes) fun v' w' H' => by
    rw [Nat.zero_add, List.nil_append] at H'
    obtain ⟨b, cap, rfl⟩ := H'.row_form
    exact h b cap w' H'

#print axioms wpList_append_src
end Go.Proofs.Ytglinpclcmmnbaa
