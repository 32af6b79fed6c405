/- order: Decode. -/
import Derived.Test.YticeolbagfaofaaOrd6
namespace Go.Proofs.Yticeolbagfaofaa
open Go.RowKit

/-- What was read, and what comes behind it, together. -/
def joinR (out : List Int) (k : Nat) (r : List Int × Nat × Nat) : List Int × Nat × Nat :=
  if r.2.2 = 0 then (out ++ r.1, k + r.2.1, 0) else ([], 0, r.2.2)
theorem joinR_nil (r : List Int × Nat × Nat) (h : r.2.2 ≠ 0 → r.1 = [] ∧ r.2.1 = 0) : joinR [] 0 r = r := by
  obtain ⟨a, b, c⟩ := r
  unfold joinR
  by_cases hc : c = 0
  · subst hc; simp
  · obtain ⟨h1, h2⟩ := h hc
    simp only at h1 h2
    subst h1
    subst h2
    rw [if_neg hc]
theorem decR_err : ∀ (n : Nat) (L : List Int) (bs : List Bool), (decR n L bs).2.2 ≠ 0 → (decR n L bs).1 = [] ∧ (decR n L bs).2.1 = 0
  | 0, _, _, h => absurd rfl h
  | n + 1, L, bs, h => by
    rw [decR] at h ⊢
    split at h
    · next h1 => rw [if_pos h1]; exact ⟨rfl, rfl⟩
    · next h1 =>
      rw [if_neg h1]
      split at h
      · next h2 => rw [if_pos h2]; exact ⟨rfl, rfl⟩
      · next h2 =>
        rw [if_neg h2]
        simp only at h ⊢
        split at h
        · exact absurd rfl h
        · next h3 => rw [if_neg h3]; exact ⟨rfl, rfl⟩

/-- One step of reading, from place i of the bits. -/
theorem decR_step {m i : Nat} {L : List Int} {l : List Bool} (hi : i ≤ l.length) :
    decR (m + 1) L (l.drop i) = if (unfixOf l i ((m + 1 : Nat) : Int)).2.1 = 0 then joinR [L.getD (unfixOf l i ((m + 1 : Nat) : Int)).1.toNat 0] (widthN ((m + 1 : Nat) : Int)) (decR m (L.eraseIdx (unfixOf l i ((m + 1 : Nat) : Int)).1.toNat) (l.drop (unfixOf l i ((m + 1 : Nat) : Int)).2.2)) else ([], 0, (unfixOf l i ((m + 1 : Nat) : Int)).2.1) := by
  generalize hw : widthN ((m + 1 : Nat) : Int) = k
  by_cases h1 : l.length < i + k
  · have hu : unfixOf l i ((m + 1 : Nat) : Int) = (0, 4, i) := by
      unfold unfixOf; rw [hw, if_neg (by omega), if_pos h1]
    rw [hu, decR, hw, if_pos (by rw [List.length_drop]; omega)]; rfl
  by_cases h2 : m + 1 ≤ ofBits ((l.drop i).take k)
  · have hu : unfixOf l i ((m + 1 : Nat) : Int) = (0, 3, i + k) := by
      unfold unfixOf; rw [hw, if_neg (by omega), if_neg h1, if_pos (by omega)]
    rw [hu, decR, hw, if_neg (by rw [List.length_drop]; omega), if_pos h2]; rfl
  have hu : unfixOf l i ((m + 1 : Nat) : Int) = ((ofBits ((l.drop i).take k) : Int), 0, i + k) := by
    unfold unfixOf; rw [hw, if_neg (by omega), if_neg h1, if_neg (by omega)]
  rw [hu, decR, hw, if_neg (by rw [List.length_drop]; omega), if_neg h2, if_pos rfl]
  simp only [Int.toNat_natCast, List.drop_drop]
  rfl
theorem joinR_joinR (out out2 : List Int) (k k2 : Nat) (r : List Int × Nat × Nat) : joinR out k (joinR out2 k2 r) = joinR (out ++ out2) (k + k2) r := by
  unfold joinR
  by_cases h : r.2.2 = 0
  · rw [if_pos h, if_pos rfl, if_pos h, List.append_assoc, Nat.add_assoc]
  · rw [if_neg h, if_neg h, if_neg h]
theorem unfix_place {l : List Bool} {i : Nat} {b : Int} (h0 : (unfixOf l i b).2.1 = 0) : (unfixOf l i b).2.2 = i + widthN b ∧ i + widthN b ≤ l.length ∧ 0 ≤ (unfixOf l i b).1 ∧ (unfixOf l i b).1 < b := by
  unfold unfixOf at h0 ⊢
  split at h0
  · cases h0
  · next h1 =>
    rw [if_neg h1]
    split at h0
    · cases h0
    · next h2 =>
      rw [if_neg h2]
      split at h0
      · cases h0
      · next h3 =>
        rw [if_neg h3]
        exact ⟨rfl, by omega, by simp only; omega, by simp only; omega⟩
theorem unfix_bound {l : List Bool} {i : Nat} {b : Int} (hi : i ≤ l.length) : (unfixOf l i b).2.2 ≤ l.length := by
  unfold unfixOf
  split
  · exact hi
  · split
    · exact hi
    · next h2 =>
      split
      · simp only; omega
      · simp only; omega

/-- What Decode gives. -/
def DecPost (n q i : Nat) (l : List Bool) (R : List HP) (r : Value) (w' : World) : Prop :=
  ((decR n (numsL n) (l.drop i)).2.2 ≠ 0 ∧ r = .tuple #[.slice none 0 0, .int .i64 ((decR n (numsL n) (l.drop i)).2.2 : Int)] ∧ ∃ j, j ≤ l.length ∧ Sep w' (Rdr q l j :: R)) ∨
  ((decR n (numsL n) (l.drop i)).2.2 = 0 ∧ ∃ v, r = .tuple #[v, .int .i64 0] ∧ (decR n (numsL n) (l.drop i)).1.length = n ∧ i + (decR n (numsL n) (l.drop i)).2.1 ≤ l.length ∧ Sep w' (HP.row 3 1 v n ((decR n (numsL n) (l.drop i)).1.map iv) :: Rdr q l (i + (decR n (numsL n) (l.drop i)).2.1) :: R))

set_option maxRecDepth 100000 in
set_option maxHeartbeats 2000000 in
theorem decode_calls {n q i : Nat} {l : List Bool} {R : List HP} {w : World} (hn : n ≤ 8192) (hi : i ≤ l.length) (hl : l.length ≤ 33554432) (H : Sep w (Rdr q l i :: R)) :
    Calls Try.prog 21 #[.pointer (some ⟨q, 0, none⟩), .int .i64 (n : Int)] w (Gives (DecPost n q i l R)) := by
  have HJ0 : Hid (decR n (numsL n) (l.drop i) = joinR [] 0 (decR n (numsL n) (l.drop i))) := Lib.hid (joinR_nil _ (decR_err _ _ _)).symm
  obtain ⟨D, hD⟩ : ∃ D, D = decR n (numsL n) (l.drop i) := ⟨_, rfl⟩
  have HD := Lib.hid hD
  have HI := Lib.hid hi
  have HLL := Lib.hid hl
  clear hD hi hl
  go_enter Try.func21, Try.ntmps21
  go_wp2_with fail
  refine (numbers_calls (by omega) H).mono ?_
  rintro e w2 ⟨left, rfl, H2⟩
  clear H
  go_wp2_with fail
  go_loopg [6, 7, 8, 9] n (fun gk o left _ _ wr => ∃ m j : Nat, ∃ L out : List Int, ∃ lv ov : Value, lv = left ∧ ov = o ∧ Hid (m ≤ n ∧ gk = m ∧ L.length = m ∧ out.length = n - m ∧ i ≤ j ∧ j ≤ l.length) ∧ Hid (D = joinR out (j - i) (decR m L (l.drop j))) ∧ Sep wr (HP.row 3 1 lv L.length (L.map iv) :: HP.row 3 1 ov out.length (out.map iv) :: Rdr q l j :: R))
  case atStart => exact ⟨n, i, numsL n, [], _, _, rfl, rfl, Lib.hid ⟨Nat.le_refl _, rfl, numsL_length n, by simp, Nat.le_refl _, HI.out⟩, Lib.hid (by rw [HD.out, Nat.sub_self]; exact HJ0.out), by rw [numsL_length]; exact (H2.row_nil _ _).swap⟩
  case round =>
    clear H2
    obtain ⟨m, j, L, out, lv, ov, rfl, rfl, hq, hh, Hr⟩ := hrel
    obtain ⟨la, lc, rfl⟩ := Hr.row_form
    obtain ⟨oa, oc, rfl⟩ := Hr.tail.row_form
    cases m with
    | zero =>
      obtain ⟨q1, q2, q3, q4, q5, q6⟩ := hq.out
      have h := hh.out
      have hL : L = [] := List.eq_nil_of_length_eq_zero q3
      subst hL
      rw [decR] at h
      unfold joinR at h
      rw [if_pos rfl, List.append_nil, Nat.add_zero] at h
      have H3 := Lib.hid h
      have Q4 := Lib.hid (And.intro q4 (And.intro q5 q6))
      clear h hh hq q1 q2 q3 q4 q5 q6
      have H4 := Lib.hid Hr.tail
      clear Hr
      have hlen : out.length = n := by have := Q4.out; omega
      subst hlen
      go_wp2_with fail
      go_ret2
      have h := HD.out
      rw [H3.out] at h
      obtain ⟨e1, e2, e3⟩ := Q4.out
      have hj : i + (j - i) = j := by omega
      refine ⟨_, rfl, .inr ?_⟩
      rw [← h]
      exact ⟨rfl, _, rfl, rfl, by simp only; omega, by simp only [hj]; exact H4.out⟩
    | succ m =>
      obtain ⟨q1, q2, q3, q4, q5, q6⟩ := hq.out
      have hstep := decR_step (m := m) (i := j) (L := L) (l := l) q6
      have hun := fun w1 (h : Sep w1 (Rdr q l j :: HP.row 3 1 (.slice la L.length lc) L.length (L.map iv) :: HP.row 3 1 (.slice oa out.length oc) out.length (out.map iv) :: R)) => unfixed_all (b := ((m + 1 : Nat) : Int)) (w := w1) (by omega) q6 HLL.out h
      have hpl := unfix_place (l := l) (i := j) (b := ((m + 1 : Nat) : Int))
      have hbd := unfix_bound (b := ((m + 1 : Nat) : Int)) q6
      have hL0 : ((m + 1 : Nat) : Int) = (L.length : Int) := by omega
      rw [hL0] at hun
      rw [hL0] at hstep hpl hbd
      generalize unfixOf l j (L.length : Int) = U at hstep hun hpl hbd
      obtain ⟨uv, ue, uj⟩ := U
      have HU := Lib.hid hun
      have HLp : 0 < L.length := by omega
      have HLb : L.length ≤ 8192 := by omega
      have hob : out.length ≤ 8192 := by omega
      clear hun
      by_cases hue : ue = 0
      · subst hue
        obtain ⟨p1, p2, p3, p4⟩ := hpl rfl
        simp only at p1 p2 p3 p4
        obtain ⟨k, rfl⟩ := Int.eq_ofNat_of_zero_le p3
        have hk : k < L.length := by omega
        simp only [if_true, Int.toNat_natCast] at hstep
        have hnew : D = joinR (out ++ [L[k]]) (uj - i) (decR m (L.eraseIdx k) (l.drop uj)) := by
          rw [hh.out, hstep, joinR_joinR, getD_get hk]
          have e : j - i + widthN (L.length : Int) = uj - i := by omega
          rw [e]
        have HN := Lib.hid hnew
        have hel : (L.eraseIdx k).length = m := by rw [List.length_eraseIdx_of_lt hk]; omega
        have hdel := fun w1 (v : Value) (R2 : List HP) (h : Sep w1 (HP.row 3 1 v L.length (L.map iv) :: R2)) => delete_calls (w := w1) hk (by omega) h
        have HDL := Lib.hid hdel
        have HQ := Lib.hid (show m ≤ n ∧ (L.eraseIdx k).length = m ∧ out.length + 1 = n - m ∧ i ≤ uj ∧ uj ≤ l.length ∧ gk = m + 1 from ⟨by omega, hel, by omega, by omega, by omega, q2⟩)
        have HG : Hid (∀ w1 la2 lc2 R2, Sep w1 (HP.row 3 1 (.slice la2 L.length lc2) L.length (L.map iv) :: R2) → ∃ g, la2 = some ⟨g, 0, none⟩ ∧ w1.cell? ⟨g, k, none⟩ = some (.int .i64 L[k])) := Lib.hid fun w1 la2 lc2 R2 h => by
          obtain ⟨g, cap, cur, he, -⟩ := h.row_open (by omega)
          simp only [Value.slice.injEq, true_and] at he
          obtain ⟨rfl, rfl⟩ := he
          exact ⟨g, rfl, h.row_cell k (iv_get hk)⟩
        have hkb : k ≤ 8192 := by omega
        generalize L[k] = y at *
        generalize hds : L.eraseIdx k = ds at *
        clear hh hq hstep hpl p1 p2 p3 p4 hnew hel hdel hds q1 q2 q3 q4 q5 q6 hL0 hbd HJ0
        have h63 : out.length + 1 ≤ maxLen := by unfold maxLen; omega
        have hby : (out.length + 1) * 8 ≤ 140737488355328 := by omega
        have HM : Hid (out.map iv ++ [.int .i64 y] = (out ++ [y]).map iv ∧ (out ++ [y]).length = out.length + 1) := Lib.hid ⟨by rw [List.map_append]; rfl, by simp⟩
        go_wp2_with fail
        refine (HU.out _ Hr.rot3).mono ?_
        rintro e w3 ⟨rfl, H3⟩
        clear Hr HU
        simp only at H3 ⊢
        obtain ⟨g, rfl, hc⟩ := HG.out _ _ _ _ H3.swap
        clear HG
        go_wp2_with ((at_builtin; go_must (refine wpList_append_one rfl (.tmp 33) (.tmp 38) 22 rfl 3 (.int .i64 0) 8 Try.underlying22 info_iv rfl (.slice oa out.length oc) out.length _ (.int .i64 y) rfl rfl H3.rot3 rfl h63 hby ?_); intro g7 c7 w7 H7; rw [HM.out.1, ← HM.out.2] at H7))
        clear H3 hc
        refine (HDL.out _ _ _ H7.rot3).mono ?_
        rintro e w8 ⟨r, rfl, H8⟩
        go_wp2_with fail
        go_roundg m
        case rel => exact ⟨m, uj, ds, out ++ [y], r, _, rfl, by rw [← HM.out.2], Lib.hid ⟨HQ.out.1, rfl, HQ.out.2.1, by rw [HM.out.2]; exact HQ.out.2.2.1, HQ.out.2.2.2.1, HQ.out.2.2.2.2.1⟩, HN, H8⟩
        case measure => have := HQ.out.2.2.2.2.2; omega
      · have hD2 : D = ([], 0, ue) := by
          rw [hh.out, hstep]
          simp only
          rw [if_neg hue]
          unfold joinR
          rw [if_neg hue]
        have HD2 := Lib.hid hD2
        have HBD : Hid (uj ≤ l.length) := Lib.hid hbd
        have hne : ((ue : Int) != 0) = true := by rw [bne_iff_ne]; omega
        clear hD2 hh hq hstep hpl hbd q1 q2 q3 q4 q5 q6 hL0 HJ0
        go_wp2_with fail
        refine (HU.out _ Hr.rot3).mono ?_
        rintro e w3 ⟨rfl, H3⟩
        clear Hr HU
        simp only at H3 ⊢
        go_wp2_with fail
        go_ret2
        have h := HD.out
        rw [HD2.out] at h
        refine ⟨_, rfl, .inl ?_⟩
        rw [← h]
        exact ⟨hue, rfl, uj, HBD.out, H3.swap.tail.swap.tail⟩

end Go.Proofs.Yticeolbagfaofaa
