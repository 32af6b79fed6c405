/- model: uncode. -/
import Derived.Test.YtbhpcpcpccmacaaMod6
import Derived.Test.YtbhpcpcpccmacaaGK
namespace Go.Proofs.Ytbhpcpcpccmacaa
open Go.RowKit Go.Shelf

theorem first_in2 {b : List Nat} (hlt : ∀ d ∈ b, d < 256) : InI firstI b := by
  have h := valD_lt (wideL b 4) (wideL_lt 4 hlt)
  rw [wideL_length] at h
  have h4 : (256 : Nat) ^ 4 = 4294967296 := by decide
  have e : firstI = (0, 0, 4294967296) := rfl
  rw [e]
  unfold InI
  simp only
  rw [Nat.zero_add]
  omega
theorem mcode_in {n : Nat} {l : List (Nat × Nat)} (h1 : 1 ≤ n) (h2 : n ≤ 256) (h : ∀ p ∈ l, p.2 < n) : ∀ t, InI (mrun n (l.take t)).1 (codeB (mrun n l).1) := by
  have hI := (mrun_ok h1 h2 h).1
  exact mrun_up h1 h2 h (codeB_lt _) (code_in (k := (mrun n l).1.1) (L := (mrun n l).1.2.1) (R := (mrun n l).1.2.2) hI (codeB_is _))
def UncPost (n : Nat) (cs : List Nat) (b : List Nat) (F : List HP) (r : Value) (w' : World) : Prop :=
  ∃ out u, RowOk n cs.length out ∧ (∀ ss, RowOk n cs.length ss → codeB (mrun n (cs.zip ss)).1 = b → out = ss) ∧ r = .tuple #[u, .bool true] ∧ Sep w' (HP.row 3 1 u cs.length (out.map dv) :: F)

set_option maxRecDepth 100000 in
set_option maxHeartbeats 8000000 in
theorem uncode_calls {v u : Value} {n cx : Nat} {cs : List Nat} {b : List Nat} {F : List HP} {w : World} (hn1 : 1 ≤ n) (hn2 : n ≤ 256) (hcx : cx ≤ 64) (hc : ∀ c ∈ cs, c < cx) (hm : cs.length ≤ 65536) (hlt : ∀ d ∈ b, d < 256) (hbl : b.length ≤ 1000000)
    (hrb : Reads F v b.length 1 (b.map bv)) (hru : Reads F u cs.length 1 (cs.map dv)) (H : Sep w F) :
    Calls Try.prog 61 #[v, .int .i64 (n : Int), .int .i64 (cx : Int), u] w (Gives (UncPost n cs b F)) := by
  obtain ⟨a, cap, rfl⟩ := (hrb w H).form
  obtain ⟨ua, ucap, rfl⟩ := (hru w H).form
  have HC := Lib.hid hc
  have HLT := Lib.hid hlt
  have HSS : Hid (∀ ss, RowOk n cs.length ss → codeB (mrun n (cs.zip ss)).1 = b → ∀ t, InI (mrun n ((cs.zip ss).take t)).1 b) := Lib.hid fun ss h1 h2 t => by
    rw [← h2]
    exact mcode_in hn1 hn2 (fun p hp => h1.2 _ (List.of_mem_zip hp).2) t
  clear hc hlt
  go_enter Try.func61, Try.ntmps61
  go_wp2_with fail
  refine (newdec_calls (v := .slice a b.length cap) hbl HLT.out hrb H).mono ?_
  rintro _ w1 ⟨_, rfl, q, rfl, H1⟩
  go_wp2_with fail
  refine (tables_calls hn1 hn2 hcx H1).mono ?_
  rintro _ w2 ⟨r, rfl, obs, ho1, ho2, H2⟩
  obtain ⟨pa, pc, rfl⟩ := H2.row_form
  have HO2 := Lib.hid ho2
  clear ho2 ho1 H H1
  have H3 : Sep w2 (DecI q b (mrun n []).1 :: Tabs obs (mrun n []).2 :: HP.row 79 1 (.slice pa cx pc) cx (obs.map tpv) :: F) := H2.rot3.cons_congr (fun _ => SepOn.perm (.swap _ _ _) _)
  have H4 : Sep w2 (HP.row 3 1 (.slice none 0 0) 0 (([] : List Nat).map dv) :: DecI q b (mrun n []).1 :: Tabs obs (mrun n []).2 :: HP.row 79 1 (.slice pa cx pc) cx (obs.map tpv) :: F) := H3.row_nil 3 1
  clear H2 H3
  go_wp2_with fail
  go_loopg [10, 24] cs.length (fun gk ov i wr => ∃ (t : Nat) (out : List Nat) (oa : Option Addr) (oc : Nat), Hid (t ≤ cs.length ∧ gk = cs.length - t ∧ RowOk n t out) ∧ Hid (∀ ss, RowOk n cs.length ss → codeB (mrun n (cs.zip ss)).1 = b → out = ss.take t) ∧ Hid (InI (mrun n ((cs.take t).zip out)).1 b) ∧ ov = .slice oa t oc ∧ i = .int .i64 (t : Int) ∧ Sep wr (HP.row 3 1 (.slice oa t oc) t (out.map dv) :: DecI q b (mrun n ((cs.take t).zip out)).1 :: Tabs obs (mrun n ((cs.take t).zip out)).2 :: HP.row 79 1 (.slice pa cx pc) cx (obs.map tpv) :: F))
  case atStart => exact ⟨0, [], none, 0, Lib.hid ⟨by omega, rfl, rfl, by simp⟩, Lib.hid (fun ss _ _ => by simp), Lib.hid (first_in2 HLT.out), rfl, rfl, H4⟩
  case round =>
    clear H4
    obtain ⟨t, out, oa, oc, hq, hu, hin, rfl, rfl, Hr⟩ := hrel
    obtain ⟨q1, q2, q3⟩ := hq.out
    clear hq
    by_cases ht : t < cs.length
    · have hti : (t : Int) < (cs.length : Int) := by omega
      obtain ⟨hI, hk, hT⟩ := mrun_ok (n := n) (l := (cs.take t).zip out) hn1 hn2 (fun p hp => q3.2 _ (List.of_mem_zip hp).2)
      have hk : (mrun n ((cs.take t).zip out)).1.1 ≤ 131072 := by
        have : ((cs.take t).zip out).length ≤ t := by rw [List.length_zip, List.length_take]; omega
        omega
      obtain ⟨g2, o2, cp2, he⟩ := (hru _ (Sep.drop_left (S := [_, _, _, _]) Hr)).open (by omega)
      simp only [Value.slice.injEq, true_and] at he
      obtain ⟨rfl, he2⟩ := he
      subst he2
      have kc := (hru _ (Sep.drop_left (S := [_, _, _, _]) Hr)).cell t (dv_at (List.getElem?_eq_getElem ht))
      have hct := HC.out _ (List.getElem_mem ht)
      have HSTEP : Hid (∀ s, mrun n ((cs.take (t + 1)).zip (out ++ [s])) = mstep (mrun n ((cs.take t).zip out)) (cs[t], s)) := Lib.hid fun s => by
        rw [List.take_succ_eq_append_getElem ht, List.zip_append (by rw [List.length_take, q3.1]; omega)]
        exact mrun_snoc _ _ _
      have HONE : Hid (∀ ss, (h1 : RowOk n cs.length ss) → codeB (mrun n (cs.zip ss)).1 = b → InI (stepI (mrun n ((cs.take t).zip out)).1 ((mrun n ((cs.take t).zip out)).2 cs[t]) (ss[t]'(by rw [h1.1]; exact ht))) b) := Lib.hid fun ss h1 h2 => by
        have h3 := HSS.out ss h1 h2 (t + 1)
        have hz : t < (cs.zip ss).length := by rw [List.length_zip, h1.1]; omega
        have hz2 : (cs.zip ss).take t = (cs.take t).zip (ss.take t) := by simp only [List.zip, List.take_zipWith]
        rw [mrun_take hz, List.getElem_zip, hz2] at h3
        simp only [hu.out ss h1 h2]
        exact h3
      have HS1 := Lib.hid (fun (ss : List Nat) (h1 : RowOk n cs.length ss) => h1.2 _ (List.getElem_mem (show t < ss.length by rw [h1.1]; exact ht)))
      generalize mrun n ((cs.take t).zip out) = S at *
      generalize cs[t] = c at *
      obtain ⟨bt, hb⟩ := HO2.out c hct
      have hcx0 : cx ≠ 0 := by omega
      obtain ⟨g3, cp3, _, he3, -⟩ := Hr.rot4.row_open hcx0
      simp only [Value.slice.injEq, true_and] at he3
      obtain ⟨rfl, rfl⟩ := he3
      have kp := Hr.rot4.row_cell c (tpv_at hb)
      have kp : wr.cell? ⟨g3, c, none⟩ = some (.pointer (some ⟨bt, 0, none⟩)) := kp
      have hci : (c : Int) < (cx : Int) := by omega
      have hv := (hT c).1
      have hl2 := (hT c).2
      have H5 : Sep wr (DecI q b S.1 :: Tbl bt (S.2 c) :: TabsBut obs S.2 c :: HP.row 3 1 (.slice oa t oc) t (out.map dv) :: HP.row 79 1 (.slice (some ⟨g3, 0, none⟩) cx pc) cx (obs.map tpv) :: F) := (Tabs.focus Hr.rot3 hb).rot4
      have HU := Lib.hid fun (s s' : Nat) (hs : s < n) (hs' : s' < n) (h : InI (stepI S.1 (S.2 c) s) b) (h' : InI (stepI S.1 (S.2 c) s') b) => step_uniq hI hv (by omega) (by omega) HLT.out h h'
      have HV := Lib.hid hv
      have HB := Lib.hid hb
      have HQ3 := Lib.hid q3
      clear hv hb hT q3
      have DC := decode_calls hI (by omega) HV.out HLT.out hin.out H5
      go_wp2_with fail
      refine DC.mono ?_
      rintro _ w5 ⟨s, rfl, hs, hin', H6⟩
      have hsn : s < n := by omega
      have HIN := Lib.hid hin'
      have hbe : bumpE (S.2 c) (s : Int) = 0 := by unfold bumpE; rw [if_pos ⟨by omega, by omega⟩]
      have HBE := Lib.hid hbe
      clear DC H5 Hr hin' hbe kp
      have kp : w5.cell? ⟨g3, c, none⟩ = some (.pointer (some ⟨bt, 0, none⟩)) := (Sep.drop_left (S := [_, _, _, _]) H6).row_cell c (tpv_at HB.out)
      have BC := bump_calls (i := (s : Int)) HV.out H6.swap
      go_wp2_with fail
      refine BC.mono ?_
      rintro _ w6 ⟨rfl, H7⟩
      clear BC H6 kp
      have H8 := (Tabs.back (T := S.2) (H7.cons_congr (fun _ => SepOn.perm (.swap _ _ _) _)) HB.out).rot3
      have HA := H8.alloc #[.int .i64 (s : Int)] 3
      have hrn := rd_new HA
      have HB2 := HA.swap
      have h63 : t + 1 ≤ maxLen := by unfold maxLen; omega
      have hby : (t + 1) * 8 ≤ 140737488355328 := by omega
      have hmm : out.map dv ++ [.int .i64 (s : Int)] = (out ++ [s]).map dv := by simp [dv]
      have HM := Lib.hid hmm
      clear hmm HA H8 H7
      go_wp2_with ((at_builtin; go_must (refine wpList_append_src rfl (.tmp 45) (.tmp 47) 40 rfl 3 (.int .i64 0) 1 8 Try.underlying40 info_iv rfl (by decide) (.slice oa t oc) t _ rfl HB2 (.slice (some ⟨w6.heap.size, 0, none⟩) 1 1) 1 [.int .i64 (s : Int)] rfl hrn (by intro u hu; simp at hu; subst hu; rfl) h63 hby ?_); intro v7 w7 H9; obtain ⟨va, vc, hv7⟩ := H9.row_form; subst hv7))
      rw [HM.out] at H9
      have H10 := (H9.swap.tail).cons_congr (fun _ => SepOn.perm (.swap _ _ _) _)
      have HRO : Hid (RowOk n (t + 1) (out ++ [s])) := Lib.hid ⟨by rw [List.length_append, HQ3.out.1]; rfl, fun s' hs' => by
        rcases List.mem_append.1 hs' with hs' | hs'
        · exact HQ3.out.2 s' hs'
        · obtain rfl : s' = s := by simpa using hs'
          exact hsn⟩
      have HN2 : Hid (∀ ss, RowOk n cs.length ss → codeB (mrun n (cs.zip ss)).1 = b → out ++ [s] = ss.take (t + 1)) := Lib.hid fun ss h1 h2 => by
        have h3 := HU.out s _ hsn (HS1.out ss h1) HIN.out (HONE.out ss h1 h2)
        rw [List.take_succ_eq_append_getElem (by rw [h1.1]; exact ht), ← hu.out ss h1 h2, ← h3]
      clear H9
      go_roundg (cs.length - (t + 1))
      case rel => exact ⟨t + 1, out ++ [s], va, vc, Lib.hid ⟨by omega, rfl, HRO.out⟩, HN2, Lib.hid (by rw [HSTEP.out]; exact HIN.out), rfl, by go_num, by rw [HSTEP.out]; exact H10⟩
      case measure => omega
    · obtain rfl : t = cs.length := by omega
      have hti : ¬ (cs.length : Int) < (cs.length : Int) := by omega
      have HFIN : Hid (∀ ss, RowOk n cs.length ss → codeB (mrun n (cs.zip ss)).1 = b → out = ss) := Lib.hid fun ss h1 h2 => by
        rw [hu.out ss h1 h2, List.take_of_length_le (by rw [h1.1]; exact Nat.le_refl _)]
      have HQ3 := Lib.hid q3
      clear q3
      go_wp2_with fail
      go_ret2
      exact ⟨_, rfl, out, _, HQ3.out, HFIN.out, rfl, Hr.swap.tail.swap.tail.swap.tail⟩

end Go.Proofs.Ytbhpcpcpccmacaa
