/- order: After, numbers; slices: BinarySearch, Delete. -/
import Derived.Test.YticeolbagfaofaaOrd1
import Derived.Lib.SliceRun
import Derived.ArgAppend
namespace Go.Proofs.Yticeolbagfaofaa
open Go.RowKit

theorem zero_int (w : World) : (zeroValue 3).run Try.prog w = .ok (.int .i64 0) w := by kernel_rfl

def setA (c : Array Value) : Nat → List Value → Array Value
  | _, [] => c
  | o, v :: r => setA (c.setIfInBounds o v) (o + 1) r
theorem Sep.setCells {b : Nat} {T : TypeId} {L : List HP} : ∀ (vs : List Value) (o : Nat) (c : Array Value) (w : World), Sep w (HP.pt b c T :: L) → Sep (w.setCells b o vs) (HP.pt b (setA c o vs) T :: L)
  | [], _, _, _, h => h
  | v :: r, o, _, _, h => Sep.setCells r (o + 1) _ _ (h.set o v)
theorem setA_size : ∀ (vs : List Value) (o : Nat) (c : Array Value), (setA c o vs).size = c.size
  | [], _, _ => rfl
  | v :: r, o, c => by rw [setA, setA_size r (o + 1)]; simp
theorem setA_toList : ∀ (vs : List Value) (o : Nat) (c : Array Value), o + vs.length ≤ c.size → (setA c o vs).toList = c.toList.take o ++ vs ++ c.toList.drop (o + vs.length)
  | [], o, c, _ => by simp [setA]
  | v :: r, o, c, h => by
    simp only [List.length_cons] at h
    rw [setA, setA_toList r (o + 1) _ (by simp; omega), Array.toList_setIfInBounds]
    have hl : o < c.toList.length := by rw [Array.length_toList]; omega
    have hl2 : o < (c.toList.set o v).length := by rw [List.length_set]; exact hl
    have e1 : (c.toList.set o v).take (o + 1) = c.toList.take o ++ [v] := by
      rw [List.take_succ_eq_append_getElem hl2, List.take_set_of_le (Nat.le_refl o), List.getElem_set_self]
    have e2 : (c.toList.set o v).drop (o + 1 + r.length) = c.toList.drop (o + (v :: r).length) := by
      rw [List.drop_set_of_lt (by omega), List.length_cons]
      congr 1
      omega
    rw [e1, e2]
    simp

theorem wpList_append_run {P : Program} {w w' : World} {ops : Array Oper} {rest : List Oper} {o : Oper} {a : Act} {Q : Exit → Act → World → Prop} (hgd : o.guard = none) (s x : Operand) (t : TypeId)
    (ho : o.op = .call { callee := .builtin .append, args := #[s, x], argTypes := #[t, t] }) (sv xv v : Value) (hs : a.eval s = sv) (hx : a.eval x = xv)
    (hr : (Builtin.append_ #[t, t] o.type #[sv, xv]).run P w = .ok v w') (h : wpList P ops Q rest (a.put o.dst v) w') : wpList P ops Q (o :: rest) a w :=
  wpList_plain hgd fun _ hK => by
    unfold Oper.wp execOp
    simp only [ho, resolve, invoke, builtin, Sem.run_bind, Sem.run_pure, Result.andThen_ok, List.map_toArray, List.map_cons, List.map_nil, hs, hx, hr]
    exact hK _ _ h

set_option maxRecDepth 100000 in
set_option maxHeartbeats 2000000 in
theorem delete_calls {v : Value} {L : List Int} {k : Nat} {R : List HP} {w : World} (hk : k < L.length) (hlen : L.length ≤ 100000) (H : Sep w (HP.row 3 1 v L.length (L.map iv) :: R)) :
    Calls Try.prog 31 #[v, .int .i64 (k : Int), .int .i64 ((k : Int) + 1)] w (Gives fun r w' => Sep w' (HP.row 3 1 r (L.eraseIdx k).length ((L.eraseIdx k).map iv) :: R)) := by
  obtain ⟨i0, hi0, hz0, hz1, hz2⟩ := info_parts info_iv
  obtain ⟨g, cap, cur, rfl, hnc, hcm, hcs, htk, H⟩ := H.row_open (by omega)
  obtain ⟨j, hj⟩ : ∃ j, j = k + 1 := ⟨_, rfl⟩
  have hjI : (k : Int) + 1 = (j : Int) := by omega
  rw [hjI]
  obtain ⟨N, hN⟩ : ∃ N, N = L.length := ⟨_, rfl⟩
  rw [← hN] at hk hlen hnc htk ⊢
  obtain ⟨news, hnews⟩ : ∃ news, news = (L.drop j).map iv := ⟨_, rfl⟩
  have hnl : news.length = N - j := by rw [hnews, List.length_map, List.length_drop]; omega
  have hcur : ∀ t u, (L.map iv)[t]? = some u → cur[t]? = some u := fun t u hu => take_get htk hu
  have hcell : ∀ t, t < cap → (w.drew.cell? ⟨g, t, none⟩).isSome = true := fun t ht => by
    have h1 : cur[t]? = some cur[t] := Array.getElem?_eq_getElem (by omega)
    rw [H.drew.cell t h1]; rfl
  obtain ⟨A, hA, hsrc⟩ : ∃ A : Addr, (if cap = j then (some ⟨g, 0, none⟩ : Option Addr) else some ⟨g, j, none⟩) = some A ∧ ∀ t u, news[t]? = some u → w.drew.cell? (A.add t) = some u := by
    by_cases h : cap = j
    · refine ⟨⟨g, 0, none⟩, by simp [h], fun t u hu => ?_⟩
      have h0 : news.length = 0 := by omega
      rw [List.length_eq_zero_iff.1 h0] at hu
      simp at hu
    · refine ⟨⟨g, j, none⟩, by simp [h], fun t u hu => ?_⟩
      rw [hnews, List.getElem?_map, List.getElem?_drop] at hu
      rw [addr_add]
      exact H.drew.cell _ (hcur (j + t) u (by rw [List.getElem?_map]; exact hu))
  have happ : ∀ ty, (Builtin.append_ #[22, 22] ty #[.slice (some ⟨g, 0, none⟩) k cap, .slice (some A) (N - j) (cap - j)]).run Try.prog w.drew = .ok (.slice (some ⟨g, 0, none⟩) (k + (N - j)) cap) (w.drew.setCells g k news) := fun ty => by
    have h := run_append_room_cells (P := Try.prog) (w := w.drew) 22 ty 3 i0 rfl hi0 g 0 k cap A (N - j) (cap - j) news (by rw [hz1, hnl, Nat.mul_one]) hsrc (by
      intro u hu
      rw [hnews] at hu
      exact iv_one _ u hu) (by omega) (by
      intro t ht
      rw [hz1, Nat.mul_one, Nat.zero_add]
      exact hcell _ (by omega)) (by
      intro t ht
      exact H.drew.froz _)
    rw [hz1, Nat.mul_one, Nat.zero_add] at h
    exact h
  have H1 := Sep.setCells news k cur w.drew H.drew
  have hts := setA_toList news k cur (by omega)
  have hsz := setA_size news k cur
  obtain ⟨q, hq⟩ : ∃ q, q = k + (N - j) := ⟨_, rfl⟩
  have hq1 : N - q = 1 := by omega
  have hcl : ∀ ty, (Builtin.clear_ #[22] ty #[.slice (some ⟨g, q, none⟩) (N - q) (cap - q)]).run Try.prog (w.drew.setCells g k news) = .ok (.tuple #[]) ((w.drew.setCells g k news).setCells g q [.int .i64 0]) := fun ty => by
    rw [hq1]
    exact Lib.run_clear_slice (P := Try.prog) (w.drew.setCells g k news) 22 3 ty (.int .i64 0) rfl zero_int rfl rfl g q 1 (cap - q) (by omega) (by
      intro t ht
      have h1 : (setA cur k news)[q + t]? = some (setA cur k news)[q + t] := Array.getElem?_eq_getElem (by omega)
      rw [H1.cell _ h1]; rfl) (by
      intro t ht
      exact H1.froz _)
  have H2 := Sep.setCells [.int .i64 0] q _ _ H1
  have hfin : (setA (setA cur k news) q [.int .i64 0]).toList.take (q * 1) = (L.eraseIdx k).map iv := by
    rw [setA_toList _ _ _ (by rw [hsz]; simp; omega), Nat.mul_one, List.append_assoc, List.take_left' (by rw [List.length_take, Array.length_toList, hsz]; omega), hts]
    have e1 : (cur.toList.take k).length = k := by rw [List.length_take, Array.length_toList]; omega
    rw [List.take_append_of_le_length (by rw [List.length_append, e1, hnl]; omega), List.take_of_length_le (by rw [List.length_append, e1, hnl]; omega), hnews, List.eraseIdx_eq_take_drop_succ, List.map_append, List.map_take, ← htk, List.take_take, Nat.mul_one, Nat.min_eq_left (by omega), hj]
  have hel : (L.eraseIdx k).length = q := by rw [List.length_eraseIdx_of_lt (by omega)]; omega
  have H3 := Sep.row_shut (n := q) (cap := cap) H2 (by omega) hcm (by rw [setA_size, setA_size]; exact hcs) hfin
  rw [hel]
  rw [← hq] at happ
  have HH := Lib.hid H3
  generalize hW2 : (w.drew.setCells g k news).setCells g q [.int .i64 0] = W2 at HH hcl
  generalize hW1 : w.drew.setCells g k news = W1 at hcl happ
  have hkc : k ≤ cap := by omega
  have hjc : j ≤ cap := by omega
  have hjN : j ≤ N := by omega
  have hkj : k ≤ j := by omega
  have hne : ((k : Int) == (j : Int)) = false := by rw [beq_eq_false_iff_ne]; omega
  have hqc : q ≤ cap := by omega
  have hqN : q ≤ N := by omega
  have hcq : ¬ cap = q := by omega
  have hNk : ¬ N = k := by omega
  clear hW2 hW1 H1 H2 H3 hfin hts hsz hcur hcell hsrc htk hcs hi0 hz0 hz1 hz2 hnews hnl H hj hjI hq hN hk hel hq1 hlen
  go_enter Try.func31, Try.ntmps31
  go_wp2_with fail
  (refine wp_region_still_tail 6 (by kernel_rfl) (by kernel_rfl) ?_; simp only [List.take_succ_cons, List.take_zero, List.drop_succ_cons, List.drop_zero]; (repeat (refine wpStill_step (fun K hK => ?_); go_simp; (try go_bits); refine hK _ ?_; clear hK K)); try refine wpStill_nil ?_)
  change wpList _ _ _ _ _ (World.drew w)
  go_wp2_with (first | (at_builtin; refine wpList_append_run rfl (.tmp 22) (.tmp 25) 22 rfl _ _ _ rfl rfl (happ _) ?_) | simp only [hcl])
  go_ret
  exact ⟨_, rfl, HH.out⟩

end Go.Proofs.Yticeolbagfaofaa
