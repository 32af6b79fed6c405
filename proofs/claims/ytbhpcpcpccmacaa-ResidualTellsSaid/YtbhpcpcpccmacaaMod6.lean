/- model: unplain, uncode. -/
import Derived.Test.YtbhpcpcpccmacaaMod5
import Derived.Test.YtbhpcpcpccmacaaGC
import Derived.Test.YtbhpcpcpccmacaaGD
namespace Go.Proofs.Ytbhpcpcpccmacaa
open Go.RowKit Go.Shelf

theorem openBits_pk {l : List Bool} (h : l.length ≤ 33554432) : openBits (pk l) (l.length : Int) = (0, l) := by
  unfold openBits
  rw [if_neg (by omega), Int.toNat_natCast, pk_length, if_neg (by omega), if_neg (by omega), if_neg ?_, all_pk]
  intro ⟨h1, h2⟩
  apply h2
  have e : (pk l).getD (l.length / 8) 0 = byteAt l (l.length / 8) := by
    have := pkN_getElem? l ((l.length + 7) / 8) (l.length / 8) (by omega)
    simp [List.getD, pk, this]
  rw [e]
  exact byteAt_shl l h1
theorem rowBits_append (n : Nat) (a b : List Nat) : rowBits n (a ++ b) = rowBits n a ++ rowBits n b := by simp [rowBits]
theorem rowBits_part {n t : Nat} {ss : List Nat} (ht : t < ss.length) : ((rowBits n ss).drop (t * widthN (n : Int))).take (widthN (n : Int)) = valBits ss[t] (widthN (n : Int)) := by
  have h1 : ss = ss.take t ++ (ss[t] :: ss.drop (t + 1)) := by rw [← List.drop_eq_getElem_cons ht, List.take_append_drop]
  have hl : (ss.take t).length = t := by rw [List.length_take]; omega
  conv => lhs; rw [h1]
  rw [rowBits_append, List.drop_left' (by rw [rowBits_length, hl])]
  have h2 : rowBits n (ss[t] :: ss.drop (t + 1)) = valBits ss[t] (widthN (n : Int)) ++ rowBits n (ss.drop (t + 1)) := by unfold rowBits; rw [List.flatMap_cons]
  rw [h2, List.take_left' (valBits_length _ _)]
theorem rowBits_val {n t : Nat} {ss : List Nat} (hn : n ≤ 256) (ht : t < ss.length) (hs : ss[t] < n) : ofBits (((rowBits n ss).drop (t * widthN (n : Int))).take (widthN (n : Int))) = ss[t] := by
  rw [rowBits_part ht]
  exact ofBits_valBits _ _ (widthN_lt (by omega) (by omega))

/-- May symbols be a row's? -/
def RowOk (n m : Nat) (ss : List Nat) : Prop := ss.length = m ∧ ∀ s ∈ ss, s < n
def UnpPost (n m : Nat) (b : List Nat) (F : List HP) (r : Value) (w' : World) : Prop :=
  (∃ out u, RowOk n m out ∧ (∀ ss, RowOk n m ss → pk (rowBits n ss) = b → out = ss) ∧ r = .tuple #[u, .bool true] ∧ Sep w' (HP.row 3 1 u m (out.map dv) :: F)) ∨
  ((∀ ss, RowOk n m ss → pk (rowBits n ss) ≠ b) ∧ r = .tuple #[.slice none 0 0, .bool false] ∧ Sep w' F)

set_option maxRecDepth 100000 in
set_option maxHeartbeats 8000000 in
theorem unplain_calls {v : Value} {n m : Nat} {b : List Nat} {F : List HP} {w : World} (hn1 : 1 ≤ n) (hn2 : n ≤ 256) (hm : m ≤ 65536) (hlt : ∀ d ∈ b, d < 256) (hrb : Reads F v b.length 1 (b.map bv)) (H : Sep w F) :
    Calls Try.prog 60 #[v, .int .i64 (n : Int), .int .i64 (m : Int)] w (Gives (UnpPost n m b F)) := by
  obtain ⟨a, cap, rfl⟩ := (hrb w H).form
  have hw8 := width_8 hn2
  have hmw : m * widthN (n : Int) ≤ 524288 := by
    have := Nat.mul_le_mul hm hw8
    omega
  have hpk : ∀ ss, RowOk n m ss → pk (rowBits n ss) = b → openBits b ((m * widthN (n : Int) : Nat) : Int) = (0, rowBits n ss) := fun ss h1 h2 => by
    have h3 : (rowBits n ss).length = m * widthN (n : Int) := by rw [rowBits_length, h1.1]
    rw [← h3, ← h2]
    exact openBits_pk (by omega)
  have WC := width_calls (b := (n : Int)) (w := w) (by omega) (by omega)
  have NC := nr_all (n := ((m * widthN (n : Int) : Nat) : Int)) hlt (hrb w H) H
  have hmi : (m : Int) * (widthN (n : Int) : Int) = ((m * widthN (n : Int) : Nat) : Int) := by simp
  have HVAL := Lib.hid fun (ss : List Nat) (t : Nat) (h1 : RowOk n m ss) (ht : t < m) => rowBits_val hn2 (show t < ss.length by rw [h1.1]; exact ht) (h1.2 _ (List.getElem_mem _))
  have HRL := Lib.hid fun (ss : List Nat) (h1 : RowOk n m ss) => (rowBits_length n ss).trans (by rw [h1.1])
  have HUF := Lib.hid fun (l : List Bool) (i q : Nat) (G : List HP) (w' : World) (hi : i ≤ l.length) (hl : l.length ≤ 33554432) (h : Sep w' (Rdr q l i :: G)) => unfixed_all (b := (n : Int)) (by omega) hi hl h
  have HUO : Hid (∀ (l : List Bool) (i : Nat), unfixOf l i (n : Int) = if (n : Int) < 1 then (0, 2, i) else if l.length < i + widthN (n : Int) then (0, 4, i) else if (n : Int) ≤ (ofBits ((l.drop i).take (widthN (n : Int))) : Int) then (0, 3, i + widthN (n : Int)) else ((ofBits ((l.drop i).take (widthN (n : Int))) : Int), 0, i + widthN (n : Int))) := Lib.hid fun l i => rfl
  generalize widthN (n : Int) = W at *
  have HPK := Lib.hid hpk
  have HNC := Lib.hid NC
  have hmw2 : ((m * W : Nat) : Int) ≤ 524288 := by omega
  generalize hMW : m * W = MW at *
  have HMW := Lib.hid hMW
  clear hpk hw8 hMW NC
  go_enter Try.func60, Try.ntmps60
  go_wp2_with fail
  refine WC.mono ?_
  rintro _ _ ⟨rfl, rfl⟩
  clear WC
  go_wp2_with fail
  refine HNC.out.mono ?_
  rintro _ w1 ⟨r1, rfl, ⟨he, rfl, H1⟩ | ⟨q, l, hob, rfl, H1⟩⟩
  · have HNO : Hid (∀ ss, RowOk n m ss → pk (rowBits n ss) ≠ b) := Lib.hid fun ss h1 h2 => he (by rw [HPK.out ss h1 h2])
    have he2 : ¬ ((openBits b (MW : Int)).1 : Int) = 0 := by omega
    have he3 : (((openBits b (MW : Int)).1 : Int) != 0) = true := by rw [bne_iff_ne]; omega
    generalize (openBits b (MW : Int)).1 = oe at *
    clear he
    go_wp2_with fail
    go_ret2
    exact ⟨_, rfl, .inr ⟨HNO.out, rfl, H1⟩⟩
  obtain ⟨-, -, hlen, -⟩ := openBits_ok hlt hob
  have hlen : l.length = MW := by omega
  have hpkl : ∀ ss, RowOk n m ss → pk (rowBits n ss) = b → rowBits n ss = l := fun ss h1 h2 => by
    have h3 := HPK.out ss h1 h2
    rw [hob] at h3
    simp only [Prod.mk.injEq, true_and] at h3
    exact h3.symm
  have HPL := Lib.hid hpkl
  have H2 := H1.row_nil 3 1
  clear hpkl hob H
  go_wp2_with fail
  go_loopg [8, 25] m (fun gk u i wr => ∃ (t : Nat) (out : List Nat) (ua : Option Addr) (uc : Nat), Hid (t ≤ m ∧ gk = m - t ∧ RowOk n t out) ∧ Hid (∀ ss, RowOk n m ss → rowBits n ss = l → out = ss.take t) ∧ u = .slice ua t uc ∧ i = .int .i64 (t : Int) ∧ Sep wr (HP.row 3 1 (.slice ua t uc) t (out.map dv) :: Rdr q l (t * W) :: F))
  case atStart => exact ⟨0, [], none, 0, Lib.hid ⟨by omega, rfl, rfl, by simp⟩, Lib.hid (fun ss _ _ => by simp), rfl, rfl, by rw [Nat.zero_mul]; exact H2⟩
  case round =>
    clear H2 H1
    obtain ⟨t, out, ua, uc, hq, hu, rfl, rfl, Hr⟩ := hrel
    obtain ⟨q1, q2, q3⟩ := hq.out
    clear hq
    by_cases ht : t < m
    · have hti : (t : Int) < (m : Int) := by omega
      have hle : t * W + W ≤ l.length := by
        rw [hlen, ← HMW.out]
        have := Nat.mul_le_mul_right W (show t + 1 ≤ m from ht)
        rw [Nat.add_mul, Nat.one_mul] at this
        exact this
      have UC := HUF.out l (t * W) q _ wr (by omega) (by omega) Hr.swap
      have hVV : ∀ ss, (hss : RowOk n m ss) → rowBits n ss = l → ofBits ((l.drop (t * W)).take W) = ss[t]'(by rw [hss.1]; exact ht) := fun ss h1 h2 => by
        have := HVAL.out ss t h1 ht
        rw [h2] at this
        exact this
      rw [HUO.out l (t * W), if_neg (by omega), if_neg (by omega)] at UC
      generalize ofBits ((l.drop (t * W)).take W) = V at *
      have HVV := Lib.hid hVV
      clear hVV
      by_cases hV : (n : Int) ≤ (V : Int)
      · rw [if_pos hV] at UC
        have HNO : Hid (∀ ss, RowOk n m ss → pk (rowBits n ss) ≠ b) := Lib.hid fun ss h1 h2 => by
          have h3 := HVV.out ss h1 (HPL.out ss h1 h2)
          have h4 := h1.2 _ (List.getElem_mem (show t < ss.length by rw [h1.1]; exact ht))
          omega
        go_wp2_with fail
        refine UC.mono ?_
        rintro _ w5 ⟨rfl, H5⟩
        go_wp2_with fail
        go_ret2
        exact ⟨_, rfl, .inr ⟨HNO.out, rfl, H5.tail.tail⟩⟩
      · rw [if_neg hV] at UC
        have HN2 : Hid (∀ ss, RowOk n m ss → rowBits n ss = l → out ++ [V] = ss.take (t + 1)) := Lib.hid fun ss h1 h2 => by
          rw [List.take_succ_eq_append_getElem (by rw [h1.1]; exact ht), ← hu.out ss h1 h2, ← HVV.out ss h1 h2]
        have HRO : Hid (RowOk n (t + 1) (out ++ [V])) := Lib.hid ⟨by rw [List.length_append, q3.1]; rfl, fun s hs => by
          rcases List.mem_append.1 hs with hs | hs
          · exact q3.2 s hs
          · obtain rfl : s = V := by simpa using hs
            omega⟩
        have hVn : V < n := by omega
        go_wp2_with fail
        refine UC.mono ?_
        rintro _ w5 ⟨rfl, H5⟩
        clear UC Hr q3
        have HA := H5.alloc #[.int .i64 (V : Int)] 3
        have hrn := rd_new HA
        have HB := HA.rot3
        have h63 : t + 1 ≤ maxLen := by unfold maxLen; omega
        have hby : (t + 1) * 8 ≤ 140737488355328 := by omega
        have hmm : out.map dv ++ [.int .i64 (V : Int)] = (out ++ [V]).map dv := by simp [dv]
        have HM := Lib.hid hmm
        clear hmm HA H5
        go_wp2_with ((at_builtin; go_must (refine wpList_append_src rfl (.tmp 35) (.tmp 37) 40 rfl 3 (.int .i64 0) 1 8 Try.underlying40 info_iv rfl (by decide) (.slice ua t uc) t _ rfl HB (.slice (some ⟨w5.heap.size, 0, none⟩) 1 1) 1 [.int .i64 (V : Int)] rfl hrn (by intro u hu; simp at hu; subst hu; rfl) h63 hby ?_); intro v7 w7 H7; obtain ⟨va, vc, hv7⟩ := H7.row_form; subst hv7))
        rw [HM.out] at H7
        have H8 := H7.swap.tail
        have HMT : Hid ((t + 1) * W = t * W + W) := Lib.hid (by rw [Nat.add_mul, Nat.one_mul])
        clear H7
        go_roundg (m - (t + 1))
        case rel => exact ⟨t + 1, out ++ [V], va, vc, Lib.hid ⟨by omega, rfl, HRO.out⟩, Lib.hid HN2.out, rfl, by go_num, by rw [HMT.out]; exact H8⟩
        case measure => omega
    · obtain rfl : t = m := by omega
      have hti : ¬ (t : Int) < (t : Int) := by omega
      have HFIN : Hid (∀ ss, RowOk n t ss → pk (rowBits n ss) = b → out = ss) := Lib.hid fun ss h1 h2 => by
        rw [hu.out ss h1 (HPL.out ss h1 h2), List.take_of_length_le (by rw [h1.1]; exact Nat.le_refl _)]
      have HQ3 := Lib.hid q3
      clear q3
      go_wp2_with fail
      go_ret2
      exact ⟨_, rfl, .inl ⟨out, _, HQ3.out, HFIN.out, rfl, Hr.swap.tail⟩⟩

end Go.Proofs.Ytbhpcpcpccmacaa
