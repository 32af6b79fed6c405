/- Law 05: coded. -/
import Derived.Test.YtbhpcpcpccmacaaMod4
import Derived.Test.YtbhpcpcpccmacaaMod10
namespace Go.Proofs.Ytbhpcpcpccmacaa
open Go.RowKit Go.Shelf

theorem Sep.swap2 {w : World} {X Y Z : HP} {L : List HP} (h : Sep w (X :: Y :: Z :: L)) : Sep w (X :: Z :: Y :: L) := h.cons_congr (fun _ => SepOn.perm (.swap _ _ _) _)
theorem zip_take_next {n : Nat} {cs ss : List Nat} {t : Nat} (h : t < (cs.zip ss).length) : mrun n ((cs.zip ss).take (t + 1)) = mstep (mrun n ((cs.zip ss).take t)) (cs[t]'(by rw [List.length_zip] at h; omega), ss[t]'(by rw [List.length_zip] at h; omega)) := by
  rw [mrun_take h, List.getElem_zip]

set_option maxRecDepth 100000 in
set_option maxHeartbeats 8000000 in
theorem lcoded_calls {v u : Value} {n cx : Nat} {ss cs : List Nat} {F : List HP} {w : World} (hn1 : 1 ≤ n) (hn2 : n ≤ 256) (hcx : cx ≤ 64) (hs : ∀ s ∈ ss, s < n) (hc : ∀ c ∈ cs, c < cx) (hlen : cs.length = ss.length) (hl : ss.length ≤ 65536)
    (hrv : Reads F v ss.length 1 (ss.map dv)) (hru : Reads F u cs.length 1 (cs.map dv)) (H : Sep w F) :
    Calls Try.prog 29 #[.int .i64 (n : Int), .int .i64 (cx : Int), v, u] w (Gives fun r w' => ∃ x, r = .tuple #[x, .bool true] ∧ Sep w' (HP.row 5 1 x (codedB n (cs.zip ss)).length ((codedB n (cs.zip ss)).map bv) :: F)) := by
  obtain ⟨a, cap, rfl⟩ := (hrv w H).form
  obtain ⟨ua, ucap, rfl⟩ := (hru w H).form
  have hzl : (cs.zip ss).length = ss.length := by rw [List.length_zip, hlen, Nat.min_self]
  have hzs : ∀ p ∈ cs.zip ss, p.2 < n := fun p hp => hs _ (List.of_mem_zip hp).2
  have HZS := Lib.hid hzs
  have HS := Lib.hid hs
  have HC := Lib.hid hc
  have HLEN := Lib.hid hlen
  have HZL := Lib.hid hzl
  have HV1 := Lib.hid (ones_ok hn1 hn2)
  clear hs hc hzs hzl
  go_enter Try.func29, Try.ntmps29
  go_wp2_with ((at_make; go_must (refine wpList_make_sep rfl _ _ 40 rfl 3 (.int .i64 0) 8 Try.underlying40 info_iv rfl H .i64 .i64 _ _ n rfl rfl rfl rfl (by omega) (by unfold maxLen; omega) ?_); intro g w3 H3))
  have e0 : List.replicate n (Value.int .i64 0) = (List.replicate 0 (1 : Int) ++ List.replicate (n - 0) 0).map iv := by simp [iv]
  rw [e0] at H3
  clear e0 H
  go_wp2_with fail
  go_loopg [22] n (fun gk i wr => ∃ t : Nat, Hid (t ≤ n ∧ gk = n - t) ∧ i = .int .i64 (t : Int) ∧ Sep wr (HP.row 3 1 (.slice (some ⟨g, 0, none⟩) n n) n ((List.replicate t (1 : Int) ++ List.replicate (n - t) 0).map iv) :: F))
  case atStart => exact ⟨0, Lib.hid ⟨by omega, rfl⟩, rfl, H3⟩
  case round =>
    clear H3
    obtain ⟨t, hq, rfl, Hr⟩ := hrel
    obtain ⟨q1, q2⟩ := hq.out
    clear hq
    by_cases ht : t < n
    · have hti : (t : Int) < (n : Int) := by omega
      have hget : ((List.replicate t (1 : Int) ++ List.replicate (n - t) 0).map iv)[t]? = some (.int .i64 0) := by
        rw [List.getElem?_map, List.getElem?_append_right (by simp), List.length_replicate, Nat.sub_self, List.getElem?_replicate, if_pos (by omega)]
        rfl
      have c0 := Hr.row_cell t hget
      have f0 := Hr.row_froz t
      have H4 := Hr.row_set t (.int .i64 1)
      rw [onesTo_set ht] at H4
      clear hget
      go_wp2_with fail
      go_roundg (n - (t + 1))
      case rel => exact ⟨t + 1, Lib.hid ⟨by omega, rfl⟩, by go_num, H4⟩
      case measure => omega
    · obtain rfl : t = n := by omega
      rw [Nat.sub_self, List.replicate_zero, List.append_nil] at Hr
      have hol : (onesI t).length = t := by simp [onesI]
      have H4 : Sep wr (HP.row 3 1 (.slice (some ⟨g, 0, none⟩) t t) (onesI t).length ((onesI t).map iv) :: F) := by
        rw [hol]; exact Hr
      have HOL := Lib.hid hol
      clear Hr hol
      go_wp2_with ((at_make; go_must (refine wpList_make_sep rfl _ _ 76 rfl 79 (.pointer none) 8 Try.underlying76 info_tptr rfl H4 .i64 .i64 _ _ cx rfl rfl rfl rfl (by omega) (by unfold maxLen; omega) ?_); intro g2 w5 H5))
      have e0 : List.replicate cx (Value.pointer none) = (List.replicate cx (none : Option Nat)).map tpv := by simp [tpv]
      rw [e0] at H5
      have H6 := Tabs.nil (T := (mrun t ((cs.zip ss).take 0)).2) H5 cx
      clear e0 H4 H5
      go_wp2_with fail
      refine (cnew_calls H6).mono ?_
      rintro _ w7 ⟨q, rfl, H7⟩
      have H7 : Sep w7 (EncI q (mrun t ((cs.zip ss).take 0)).1 :: _) := H7
      clear H6
      go_wp2_with fail
      go_loopg [34] ss.length (fun gk i wr => ∃ (k : Nat) (obs : List (Option Nat)), Hid (k ≤ ss.length ∧ gk = ss.length - k ∧ obs.length = cx) ∧ Hid (∀ c, obs[c]? = some none → (mrun t ((cs.zip ss).take k)).2 c = onesI t) ∧ i = .int .i64 (k : Int) ∧ Sep wr (EncI q (mrun t ((cs.zip ss).take k)).1 :: Tabs obs (mrun t ((cs.zip ss).take k)).2 :: HP.row 79 1 (.slice (some ⟨g2, 0, none⟩) cx cx) cx (obs.map tpv) :: HP.row 3 1 (.slice (some ⟨g, 0, none⟩) t t) (onesI t).length ((onesI t).map iv) :: F))
      case atStart => exact ⟨0, _, Lib.hid ⟨by omega, rfl, List.length_replicate⟩, Lib.hid (fun c _ => rfl), rfl, H7⟩
      case round =>
        clear H7
        obtain ⟨k, obs, hq, hun, rfl, Hr⟩ := hrel
        obtain ⟨k1, k2, k3⟩ := hq.out
        clear hq
        obtain ⟨hI, hk, hT⟩ := mrun_ok (n := t) (l := (cs.zip ss).take k) hn1 hn2 (fun p hp => HZS.out p (List.mem_of_mem_take hp))
        have hk : (mrun t ((cs.zip ss).take k)).1.1 ≤ 131072 := by
          have : ((cs.zip ss).take k).length ≤ k := by simp; omega
          omega
        have HK3 := Lib.hid k3
        clear k3
        by_cases hks : k < ss.length
        · have hkc : k < cs.length := by rw [HLEN.out]; exact hks
          have HST := Lib.hid (zip_take_next (n := t) (cs := cs) (ss := ss) (t := k) (by rw [HZL.out]; exact hks))
          obtain ⟨g3, o3, cp3, he⟩ := (hrv _ (Sep.drop_left (S := [_, _, _, _]) Hr)).open (by omega)
          simp only [Value.slice.injEq, true_and] at he
          obtain ⟨rfl, rfl⟩ := he
          obtain ⟨g4, o4, cp4, he⟩ := (hru _ (Sep.drop_left (S := [_, _, _, _]) Hr)).open (by omega)
          simp only [Value.slice.injEq, true_and] at he
          obtain ⟨rfl, he2⟩ := he
          subst he2
          have HCS : Hid (∀ w', Sep w' F → w'.cell? ⟨g3, o3 + k, none⟩ = some (.int .i64 (ss[k] : Int)) ∧ w'.cell? ⟨g4, o4 + k, none⟩ = some (.int .i64 (cs[k] : Int))) := Lib.hid fun w' h => ⟨(hrv w' h).cell k (dv_at (List.getElem?_eq_getElem hks)), (hru w' h).cell k (dv_at (List.getElem?_eq_getElem hkc))⟩
          obtain ⟨ks, kc⟩ := HCS.out _ (Sep.drop_left (S := [_, _, _, _]) Hr)
          have hst := HS.out _ (List.getElem_mem hks)
          have hct := HC.out _ (List.getElem_mem hkc)
          generalize mrun t ((cs.zip ss).take k) = S at *
          generalize ss[k] = s at *
          generalize cs[k] = c at *
          have hki : (k : Int) < (ss.length : Int) := by omega
          have hki2 : (k : Int) < (cs.length : Int) := by omega
          have hci : (c : Int) < (cx : Int) := by omega
          have hv := (hT c).1
          have hl2 := (hT c).2
          have hbe : bumpE (S.2 c) (s : Int) = 0 := by unfold bumpE; rw [if_pos ⟨by omega, by omega⟩]
          have HBE := Lib.hid hbe
          have HV := Lib.hid hv
          clear hbe hv hT
          obtain ⟨ob, hob⟩ : ∃ ob, obs[c]? = some ob := ⟨_, List.getElem?_eq_getElem (by rw [HK3.out]; exact hct)⟩
          have HOB := Lib.hid hob
          have kp : wr.cell? ⟨g2, c, none⟩ = some (tpv ob) := Hr.rot3.row_cell c (tpv_at hob)
          clear hob
          rcases ob with _ | b
          · replace kp : wr.cell? ⟨g2, c, none⟩ = some (.pointer none) := kp
            have N1 := new_calls (v := .slice (some ⟨g, 0, none⟩) t t) (xs := onesI t) (by exact Reads.cons (Reads.cons (Reads.cons Reads.row))) Hr
            go_wp2_with fail
            refine N1.mono ?_
            rintro e w5 ⟨r, rfl, ⟨hne, -, -⟩ | ⟨-, b, rfl, H6⟩⟩
            · exact absurd (tabErr_of HV1.out) hne
            clear N1 kp ks kc
            have H7 : Sep w5 (Tbl b (S.2 c) :: EncI q S.1 :: Tabs obs S.2 :: HP.row 79 1 (.slice (some ⟨g2, 0, none⟩) cx cx) cx (obs.map tpv) :: HP.row 3 1 (.slice (some ⟨g, 0, none⟩) t t) (onesI t).length ((onesI t).map iv) :: F) := by rw [hun.out c HOB.out]; exact H6
            have H8 := Tabs.make H7.swap2 HOB.out
            have H9 := H8.rot3.row_set c (.pointer (some ⟨b, 0, none⟩))
            have hms : (obs.map tpv).set c (.pointer (some ⟨b, 0, none⟩)) = (obs.set c (some b)).map tpv := by rw [List.map_set]; rfl
            rw [hms] at H9
            have kp := H8.rot3.row_cell c (tpv_at HOB.out)
            have kf := H8.rot3.row_froz c
            obtain ⟨ks, kc⟩ := HCS.out _ (Sep.drop_left (S := [_, _, _, _]) H8)
            have kp2 := H9.row_cell c (tpv_at (l := obs.set c (some b)) (ob := some b) (by rw [List.getElem?_set_self (by rw [HK3.out]; exact hct)]))
            have kp2 : World.cell? _ _ = some (Value.pointer (some ⟨b, 0, none⟩)) := kp2
            obtain ⟨ks2, kc2⟩ := HCS.out _ (Sep.drop_left (S := [_, _, _, _]) H9)
            have HOB2 : Hid ((obs.set c (some b))[c]? = some (some b)) := Lib.hid (by rw [List.getElem?_set_self (by rw [HK3.out]; exact hct)])
            have HUN2 : Hid (∀ c', (obs.set c (some b))[c']? = some none → S.2 c' = onesI t) := Lib.hid fun c' h => by
              by_cases e : c' = c
              · subst e
                rw [HOB2.out] at h
                cases h
              · rw [List.getElem?_set_ne (fun h => e h.symm)] at h
                exact hun.out c' h
            have HK4 : Hid ((obs.set c (some b)).length = cx) := Lib.hid (by rw [List.length_set]; exact HK3.out)
            have H10 := H9.rot3.swap2
            clear hms H6 H7 H8 Hr
            have H11 := (Tabs.focus H10.swap HOB2.out).rot3
            have EC := encode_ok (s := s) hI (by omega) HV.out (by omega) H11
            go_wp2_with fail
            refine EC.mono ?_
            rintro _ w8 ⟨rfl, H12⟩
            clear EC H11 H10 H9 kp kp2 kf ks kc ks2 kc2
            obtain ⟨ks3, kc3⟩ := HCS.out _ (Sep.drop_left (S := [_, _, _, _, _]) H12)
            have BC := bump_calls (i := (s : Int)) HV.out H12.swap
            rw [HBE.out] at BC
            go_wp2_with fail
            refine BC.mono ?_
            rintro _ w9 ⟨rfl, H13⟩
            clear BC H12 ks3 kc3
            have H14 := (Tabs.back (T := S.2) H13.swap2 HOB2.out).swap
            go_wp2_with fail
            go_roundg (ss.length - (k + 1))
            case rel => exact ⟨k + 1, obs.set c (some b), Lib.hid ⟨by omega, rfl, HK4.out⟩, Lib.hid (fun c' h => by
              rw [HST.out]
              show (if c' = c then _ else S.2 c') = _
              rw [if_neg (fun e => by subst e; rw [HOB2.out] at h; cases h)]
              exact HUN2.out c' h), by go_num, by rw [HST.out]; exact H14⟩
            case measure => omega
          · replace kp : wr.cell? ⟨g2, c, none⟩ = some (.pointer (some ⟨b, 0, none⟩)) := kp
            have HOB2 : Hid (obs[c]? = some (some b)) := Lib.hid HOB.out
            have HUN2 : Hid (∀ c', obs[c']? = some none → S.2 c' = onesI t) := Lib.hid hun.out
            have HK4 := Lib.hid HK3.out
            have H11 := (Tabs.focus Hr.swap HOB2.out).rot3
            have EC := encode_ok (s := s) hI (by omega) HV.out (by omega) H11
            go_wp2_with fail
            refine EC.mono ?_
            rintro _ w8 ⟨rfl, H12⟩
            clear EC H11 Hr kp ks kc
            obtain ⟨ks3, kc3⟩ := HCS.out _ (Sep.drop_left (S := [_, _, _, _, _]) H12)
            have BC := bump_calls (i := (s : Int)) HV.out H12.swap
            rw [HBE.out] at BC
            go_wp2_with fail
            refine BC.mono ?_
            rintro _ w9 ⟨rfl, H13⟩
            clear BC H12 ks3 kc3
            have H14 := (Tabs.back (T := S.2) H13.swap2 HOB2.out).swap
            go_wp2_with fail
            go_roundg (ss.length - (k + 1))
            case rel => exact ⟨k + 1, obs, Lib.hid ⟨by omega, rfl, HK4.out⟩, Lib.hid (fun c' h => by
              rw [HST.out]
              show (if c' = c then _ else S.2 c') = _
              rw [if_neg (fun e => by subst e; rw [HOB2.out] at h; cases h)]
              exact HUN2.out c' h), by go_num, by rw [HST.out]; exact H14⟩
            case measure => omega
        · obtain rfl : k = ss.length := by omega
          have hti : ¬ (ss.length : Int) < (ss.length : Int) := by omega
          have hti2 : ¬ (ss.length : Int) < (cs.length : Int) := by have := HLEN.out; omega
          rw [List.take_of_length_le (by rw [HZL.out]; exact Nat.le_refl _)] at Hr hI hk
          have hCD : codedB t (cs.zip ss) = 1 :: codeB (mrun t (cs.zip ss)).1 := rfl
          generalize mrun t (cs.zip ss) = S at *
          have hcl := codeB_len S.1
          have HCD := Lib.hid hCD
          clear hCD hT
          have HA := Hr.alloc #[.int .u8 1] 5
          have HN : Sep _ (HP.row 5 1 (.slice (some ⟨wr.heap.size, 0, none⟩) 1 1) 1 [.int .u8 1] :: _) := Sep.row_shut HA (Nat.le_refl _) (by unfold maxLen; omega) rfl rfl
          have FC := finish_calls hI (by omega) HN.swap
          have h63 : 1 + (codeB S.1).length ≤ maxLen := by unfold maxLen; omega
          have hby : (1 + (codeB S.1).length) * 1 ≤ 140737488355328 := by omega
          clear HA
          go_wp2_with fail
          refine FC.mono ?_
          rintro _ w6 ⟨r6, rfl, c, hc, H6⟩
          obtain rfl := hc.eq
          obtain ⟨ra, rc, rfl⟩ := H6.row_form
          have hrd6 := H6.rd
          have H7 := H6.rot3
          clear FC H6 hc
          go_wp2_with ((at_builtin; go_must (refine wpList_append_src rfl (.tmp 84) (.tmp 86) 33 rfl 5 (.int .u8 0) 1 1 Try.underlying33 info_u8 rfl (by decide) (.slice (some ⟨wr.heap.size, 0, none⟩) 1 1) 1 [.int .u8 1] rfl H7 (.slice ra (codeB S.1).length rc) _ _ rfl hrd6 (bv_one _) h63 hby ?_); intro v7 w7 H8))
          go_ret2
          refine ⟨_, rfl, _, rfl, ?_⟩
          have e1 : (codedB t (cs.zip ss)).length = 1 + (codeB S.1).length := by rw [HCD.out, List.length_cons, Nat.add_comm]
          have e2 : (codedB t (cs.zip ss)).map bv = [Value.int .u8 1] ++ (codeB S.1).map bv := by rw [HCD.out, List.map_cons]; rfl
          rw [e1, e2]
          exact H8.swap.tail.swap.tail.swap.tail.swap.tail.swap.tail

end Go.Proofs.Ytbhpcpcpccmacaa
