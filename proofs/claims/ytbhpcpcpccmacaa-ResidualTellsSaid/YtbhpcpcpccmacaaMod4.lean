/- model: coded. -/
import Derived.Test.YtbhpcpcpccmacaaMod3
namespace Go.Proofs.Ytbhpcpcpccmacaa
open Go.RowKit Go.Shelf

theorem code_ex (K L R : Nat) : ∃ c, IsCode K L R c := by
  have h : ∀ m, (∃ n, n < m ∧ OkN K L R n ∧ ∀ j, j < n → ¬ OkN K L R j) ∨ ∀ j, j < m → ¬ OkN K L R j := by
    intro m
    induction m with
    | zero => exact .inr fun j hj => absurd hj (by omega)
    | succ m ih =>
      rcases ih with ⟨n, h1, h2⟩ | ih
      · exact .inl ⟨n, by omega, h2⟩
      · by_cases hm : OkN K L R m
        · exact .inl ⟨m, by omega, hm, ih⟩
        · exact .inr fun j hj => by
            rcases Nat.lt_or_ge j m with h | h
            · exact ih j h
            · obtain rfl : j = m := by omega
              exact hm
  rcases h (K + 1) with ⟨n, h1, h2, h3⟩ | h1
  · exact ⟨_, n, by omega, h3, h2, rfl⟩
  · exact absurd (OkN_last K L R) (h1 K (by omega))
/-- An interval's bytes. -/
noncomputable def codeB (x : Nat × Nat × Nat) : List Nat := Classical.choose (code_ex (x.1 + 4) x.2.1 x.2.2)
theorem codeB_is (x : Nat × Nat × Nat) : IsCode (x.1 + 4) x.2.1 x.2.2 (codeB x) := Classical.choose_spec (code_ex (x.1 + 4) x.2.1 x.2.2)
theorem IsCode.eq {x : Nat × Nat × Nat} {c : List Nat} (h : IsCode (x.1 + 4) x.2.1 x.2.2 c) : c = codeB x := h.uniq (codeB_is x)
theorem codeB_len (x : Nat × Nat × Nat) : (codeB x).length ≤ x.1 + 4 := by
  obtain ⟨n, hn, -, -, hc⟩ := codeB_is x
  rw [hc, digs_length]; exact hn
theorem codeB_lt (x : Nat × Nat × Nat) : ∀ d ∈ codeB x, d < 256 := by
  obtain ⟨n, -, -, -, hc⟩ := codeB_is x
  rw [hc]; exact digs_lt _ _
noncomputable def codedB (n : Nat) (l : List (Nat × Nat)) : List Nat := 1 :: codeB (mrun n l).1

set_option maxRecDepth 100000 in
set_option maxHeartbeats 8000000 in
theorem coded_calls {v u : Value} {n cx : Nat} {ss cs : List Nat} {F : List HP} {w : World} (hn1 : 1 ≤ n) (hn2 : n ≤ 256) (hcx : cx ≤ 64) (hs : ∀ s ∈ ss, s < n) (hc : ∀ c ∈ cs, c < cx) (hlen : cs.length = ss.length) (hl : ss.length ≤ 65536)
    (hrv : Reads F v ss.length 1 (ss.map dv)) (hru : Reads F u cs.length 1 (cs.map dv)) (H : Sep w F) :
    Calls Try.prog 51 #[.int .i64 (n : Int), .int .i64 (cx : Int), v, u] w (Gives fun r w' => Sep w' (HP.row 5 1 r (codedB n (cs.zip ss)).length ((codedB n (cs.zip ss)).map bv) :: F)) := by
  obtain ⟨a, cap, rfl⟩ := (hrv w H).form
  obtain ⟨ua, ucap, rfl⟩ := (hru w H).form
  have hzl : (cs.zip ss).length = ss.length := by rw [List.length_zip, hlen, Nat.min_self]
  have hzs : ∀ p ∈ cs.zip ss, p.2 < n := fun p hp => hs _ (List.of_mem_zip hp).2
  have HZS := Lib.hid hzs
  have HS := Lib.hid hs
  have HC := Lib.hid hc
  have HLEN := Lib.hid hlen
  have HZL := Lib.hid hzl
  clear hs hc hzs hzl
  go_enter Try.func51, Try.ntmps51
  go_wp2_with fail
  refine (cnew_calls H).mono ?_
  rintro _ w1 ⟨q, rfl, H1⟩
  go_wp2_with fail
  refine (tables_calls hn1 hn2 hcx H1).mono ?_
  rintro _ w2 ⟨r, rfl, obs, ho1, ho2, H2⟩
  obtain ⟨pa, pc, rfl⟩ := H2.row_form
  have HO2 := Lib.hid ho2
  have HO1 := Lib.hid ho1
  clear ho2 ho1 H H1
  have H3 : Sep w2 (EncI q (mrun n ((cs.zip ss).take 0)).1 :: Tabs obs (mrun n ((cs.zip ss).take 0)).2 :: HP.row 79 1 (.slice pa cx pc) cx (obs.map tpv) :: F) := H2.rot3.cons_congr (fun _ => SepOn.perm (.swap _ _ _) _)
  clear H2
  go_wp2_with fail
  go_loopg [20] ss.length (fun gk i wr => ∃ t : Nat, Hid (t ≤ ss.length ∧ gk = ss.length - t) ∧ i = .int .i64 (t : Int) ∧ Sep wr (EncI q (mrun n ((cs.zip ss).take t)).1 :: Tabs obs (mrun n ((cs.zip ss).take t)).2 :: HP.row 79 1 (.slice pa cx pc) cx (obs.map tpv) :: F))
  case atStart => exact ⟨0, Lib.hid ⟨by omega, rfl⟩, rfl, H3⟩
  case round =>
    clear H3
    obtain ⟨t, hq, rfl, Hr⟩ := hrel
    obtain ⟨q1, q2⟩ := hq.out
    clear hq
    obtain ⟨hI, hk, hT⟩ := mrun_ok (n := n) (l := (cs.zip ss).take t) hn1 hn2 (fun p hp => HZS.out p (List.mem_of_mem_take hp))
    have hk : (mrun n ((cs.zip ss).take t)).1.1 ≤ 131072 := by
      have : ((cs.zip ss).take t).length ≤ t := by simp; omega
      omega
    by_cases ht : t < ss.length
    · have htc : t < cs.length := by rw [HLEN.out]; exact ht
      have hST := mrun_take (n := n) (l := cs.zip ss) (t := t) (by rw [HZL.out]; exact ht)
      rw [List.getElem_zip] at hST
      obtain ⟨g, o, cp, he⟩ := (hrv _ (Sep.drop_left (S := [_, _, _]) Hr)).open (by omega)
      simp only [Value.slice.injEq, true_and] at he
      obtain ⟨rfl, rfl⟩ := he
      obtain ⟨g2, o2, cp2, he⟩ := (hru _ (Sep.drop_left (S := [_, _, _]) Hr)).open (by omega)
      simp only [Value.slice.injEq, true_and] at he
      obtain ⟨rfl, he2⟩ := he
      subst he2
      have ks := (hrv _ (Sep.drop_left (S := [_, _, _]) Hr)).cell t (dv_at (List.getElem?_eq_getElem ht))
      have kc := (hru _ (Sep.drop_left (S := [_, _, _]) Hr)).cell t (dv_at (List.getElem?_eq_getElem htc))
      have hst := HS.out _ (List.getElem_mem ht)
      have hct := HC.out _ (List.getElem_mem htc)
      have HST := Lib.hid hST
      clear hST
      generalize mrun n ((cs.zip ss).take t) = S at *
      generalize ss[t] = s at *
      generalize cs[t] = c at *
      obtain ⟨b, hb⟩ := HO2.out c hct
      have hcx0 : cx ≠ 0 := by omega
      obtain ⟨g3, cp3, _, he3, -⟩ := Hr.rot3.row_open hcx0
      simp only [Value.slice.injEq, true_and] at he3
      obtain ⟨rfl, rfl⟩ := he3
      have kp : wr.cell? ⟨g3, c, none⟩ = some (.pointer (some ⟨b, 0, none⟩)) := Hr.rot3.row_cell c (tpv_at hb)
      have hti : (t : Int) < (ss.length : Int) := by omega
      have hti2 : (t : Int) < (cs.length : Int) := by omega
      have hci : (c : Int) < (cx : Int) := by omega
      have hv := (hT c).1
      have hl2 := (hT c).2
      have H4 := (Tabs.focus Hr.swap hb).rot3
      have hbe : bumpE (S.2 c) (s : Int) = 0 := by unfold bumpE; rw [if_pos ⟨by omega, by omega⟩]
      have HBE := Lib.hid hbe
      have HV := Lib.hid hv
      have HB := Lib.hid hb
      clear hbe hv hb hT
      have EC := encode_ok (s := s) hI (by omega) HV.out (by omega) H4
      go_wp2_with fail
      refine EC.mono ?_
      rintro _ w5 ⟨rfl, H5⟩
      clear EC H4 Hr ks kc kp
      have BC := bump_calls (i := (s : Int)) HV.out H5.swap
      go_wp2_with fail
      refine BC.mono ?_
      rintro _ w6 ⟨rfl, H6⟩
      clear BC H5
      have H7 := (Tabs.back (T := S.2) (H6.cons_congr (fun _ => SepOn.perm (.swap _ _ _) _)) HB.out).swap
      go_wp2_with fail
      go_roundg (ss.length - (t + 1))
      case rel => exact ⟨t + 1, Lib.hid ⟨by omega, rfl⟩, by go_num, by rw [HST.out]; exact H7⟩
      case measure => omega
    · obtain rfl : t = ss.length := by omega
      have hti : ¬ (ss.length : Int) < (ss.length : Int) := by omega
      rw [List.take_of_length_le (by rw [HZL.out]; exact Nat.le_refl _)] at Hr hI hk
      have hCD : codedB n (cs.zip ss) = 1 :: codeB (mrun n (cs.zip ss)).1 := rfl
      generalize mrun n (cs.zip ss) = S at *
      have hcl := codeB_len S.1
      have HCD := Lib.hid hCD
      clear hCD hT
      have HA := Hr.alloc #[.int .u8 1] 5
      have HN : Sep _ (HP.row 5 1 (.slice (some ⟨wr.heap.size, 0, none⟩) 1 1) 1 [.int .u8 1] :: _) := Sep.row_shut HA (Nat.le_refl _) (by unfold maxLen; omega) rfl rfl
      have FC := finish_calls hI (by omega) HN.swap
      have h63 : 1 + (codeB S.1).length ≤ maxLen := by unfold maxLen; omega
      have hby : (1 + (codeB S.1).length) * 1 ≤ 140737488355328 := by omega
      clear HA
      go_wp2_with fail
      refine FC.mono ?_
      rintro _ w6 ⟨r6, rfl, c, hc, H6⟩
      obtain rfl := hc.eq
      obtain ⟨ra, rc, rfl⟩ := H6.row_form
      have hrd6 := H6.rd
      have H7 := H6.rot3
      clear FC H6 hc
      go_wp2_with ((at_builtin; go_must (refine wpList_append_src rfl (.tmp 40) (.tmp 42) 33 rfl 5 (.int .u8 0) 1 1 Try.underlying33 info_u8 rfl (by decide) (.slice (some ⟨wr.heap.size, 0, none⟩) 1 1) 1 [.int .u8 1] rfl H7 (.slice ra (codeB S.1).length rc) _ _ rfl hrd6 (bv_one _) h63 hby ?_); intro v7 w7 H8))
      go_ret
      refine ⟨_, rfl, ?_⟩
      have e1 : (codedB n (cs.zip ss)).length = 1 + (codeB S.1).length := by rw [HCD.out, List.length_cons, Nat.add_comm]
      have e2 : (codedB n (cs.zip ss)).map bv = [Value.int .u8 1] ++ (codeB S.1).map bv := by rw [HCD.out, List.map_cons]; rfl
      rw [e1, e2]
      exact H8.swap.tail.swap.tail.swap.tail.swap.tail

end Go.Proofs.Ytbhpcpcpccmacaa
