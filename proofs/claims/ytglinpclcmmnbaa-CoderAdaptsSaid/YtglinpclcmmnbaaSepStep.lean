/- The append laws as step laws, for regions that draw their order. No program in sight. -/
import Derived.Test.YtglinpclcmmnbaaSepLaws2
import Derived.Deep.RegionHeld3
import Derived.Deep.RegionHeldLaw
import Derived.Laws.OwnMore
namespace Go.Proofs.Ytglinpclcmmnbaa
open Go.RowKit

theorem wp_append_src {P : Program} {w : World} {o : Oper} {a : Act} {K : Act → World → Prop} {Q : Exit → Act → World → Prop} (s x : Operand) (t : TypeId)
    (ho : o.op = .call { callee := .builtin .append, args := #[s, x], argTypes := #[t, t] })
    (e : TypeId) (z : Value) (size bytes : Nat) (ht : P.underlying t = some (.slice e)) (hinfo : (P.info? e).map (fun i => (i.zero, i.size, i.bytes)) = some (some z, size, bytes)) (hzs : z.cells.size = size) (hsz : 0 < size)
    (v : Value) (n : Nat) (xs : List Value) {R : List HP} (hs : a.eval s = v) (H : Sep w (HP.row e size v n xs :: R))
    (sv : Value) (m : Nat) (news : List Value) (hx : a.eval x = sv) (hrd : RdS w sv m size news) (h1 : ∀ u ∈ news, u.oneCell' = true)
    (h63 : n + m ≤ maxLen) (hbytes : (n + m) * bytes ≤ 140737488355328)
    (h : ∀ b c w', Sep w' (HP.row e size (.slice b (n + m) c) (n + m) (xs ++ news) :: R) → K (a.put o.dst (.slice b (n + m) c)) w') : o.wp P a w K Q := by
  obtain ⟨i, hi, hz, hs1, hb⟩ := info_parts hinfo
  rcases hrd.2 with ⟨rfl, rfl⟩ | ⟨ad, cap, rfl, hh⟩
  · have hn : news = [] := List.eq_nil_of_length_eq_zero (by simpa using hrd.1)
    subst hn
    have hrun := run_append_owned_none (P := P) (w := w) 0 t o.type e i size ht hi v n xs H.owns
    obtain ⟨b, c, rfl⟩ := H.row_form
    unfold Oper.wp
    simp [execOp, ho, resolve, invoke, builtin, hs, hx, hrun, Result.andThen]
    exact h b c w (by simpa using H)
  · exact wp_append_sep s x t ho e i z size bytes ht hi hz hs1 hb hzs hsz v n xs hs H ad m cap news hx hrd.1 hh h1 h63 hbytes fun v' w' h2 => by
      obtain ⟨b, c, rfl⟩ := h2.row_form
      exact h b c w' h2

theorem step_append_src {P : Program} {w : World} {ops : Array Oper} {o : Oper} {a : Act} {K : Act → World → Prop} {Q : Exit → Act → World → Prop} {E : Prop} (hgd : o.guard = none) (s x : Operand) (t : TypeId)
    (ho : o.op = .call { callee := .builtin .append, args := #[s, x], argTypes := #[t, t] })
    (e : TypeId) (z : Value) (size bytes : Nat) (ht : P.underlying t = some (.slice e)) (hinfo : (P.info? e).map (fun i => (i.zero, i.size, i.bytes)) = some (some z, size, bytes)) (hzs : z.cells.size = size) (hsz : 0 < size)
    (v : Value) (n : Nat) (xs : List Value) {R : List HP} (hs : a.eval s = v) (H : Sep w (HP.row e size v n xs :: R))
    (sv : Value) (m : Nat) (news : List Value) (hx : a.eval x = sv) (hrd : RdS w sv m size news) (h1 : ∀ u ∈ news, u.oneCell' = true)
    (h63 : n + m ≤ maxLen) (hbytes : (n + m) * bytes ≤ 140737488355328)
    (h : ∀ b c w', Sep w' (HP.row e size (.slice b (n + m) c) (n + m) (xs ++ news) :: R) → K (a.put o.dst (.slice b (n + m) c)) w') :
    if Region.wanted o (yielded ops a.tmps) = true then Oper.wp P o a w K Q else E := by
  have hw : Region.wanted o (yielded ops a.tmps) = true := by simp [Region.wanted, hgd]
  rw [if_pos hw]
  exact wp_append_src s x t ho e z size bytes ht hinfo hzs hsz v n xs hs H sv m news hx hrd h1 h63 hbytes h

#print axioms step_append_src
end Go.Proofs.Ytglinpclcmmnbaa
