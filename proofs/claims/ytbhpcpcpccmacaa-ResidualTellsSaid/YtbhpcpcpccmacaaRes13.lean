/- residual: unclass. -/
import Derived.Test.YtbhpcpcpccmacaaRes12
namespace Go.Proofs.Ytbhpcpcpccmacaa
open Go.RowKit Go.Shelf

theorem Sep.rot5 {w : World} {X Y Z U V : HP} {L : List HP} (h : Sep w (X :: Y :: Z :: U :: V :: L)) : Sep w (V :: X :: Y :: Z :: U :: L) :=
  (h.cons_congr (fun _ => SepOn.perm (((List.Perm.swap V U L).cons Z |>.trans (.swap V Z (U :: L)) |>.cons Y).trans (.swap V Y _)) _)).swap
theorem Sep.mid4 {w : World} {X A B C D : HP} {L : List HP} (h : Sep w (X :: A :: B :: C :: D :: L)) : Sep w (A :: B :: C :: D :: X :: L) :=
  h.perm ((List.Perm.swap A X _).trans (.cons A ((List.Perm.swap B X _).trans (.cons B ((List.Perm.swap C X _).trans (.cons C (.swap D X L)))))))
/-- What unclass gives. -/
def CPost (n : Nat) (b : List Nat) (F : List HP) (r : Value) (w' : World) : Prop :=
  (∃ out u, out.length = n * 3 ∧ (∀ x ∈ out, x ≤ 18446744073709551615) ∧ (∀ xs, Cnd n b xs → out = xs) ∧ r = .tuple #[u, .bool true] ∧ Sep w' (HP.row 29 3 u n (out.map uv) :: F)) ∨
  ((∀ xs, ¬ Cnd n b xs) ∧ r = .tuple #[.slice none 0 0, .bool false] ∧ Sep w' F)

set_option maxRecDepth 100000 in
set_option maxHeartbeats 8000000 in
theorem runclass_calls {v : Value} {n : Nat} {b : List Nat} {F : List HP} {w : World} (hn : n ≤ 4096) (hlt : ∀ d ∈ b, d < 256) (hl : b.length ≤ 1000000) (hrd : Reads F v b.length 1 (b.map bv)) (H : Sep w F) :
    Calls Try.prog 47 #[v, .int .i64 (n : Int)] w (Gives (CPost n b F)) := by
  obtain ⟨a, cap, rfl⟩ := (hrd w H).form
  have RC := reader_calls hlt (by omega) hrd H
  have hB : (allBits b).length ≤ 33554432 := by rw [allBits_length]; omega
  have HB := Lib.hid hB
  clear hB
  have HMANY := Lib.hid fun xs (h : Cnd n b xs) => cnd_many hn h
  have HSM := Lib.hid fun xs (h : Cnd n b xs) => (cnd_bits hn h).2
  have hgl := getN_le (allBits b)
  go_enter Try.func47, Try.ntmps47
  go_wp2_with fail
  refine RC.mono ?_
  rintro _ w1 ⟨q, rfl, H1⟩
  clear RC H
  have GC := nget_all (Nat.zero_le _) HB.out H1
  rw [List.drop_zero] at GC
  obtain ⟨gv, gs, ge, hg⟩ : ∃ gv gs ge, getN (allBits b) = (gv, gs, ge) := ⟨_, _, _, rfl⟩
  rw [hg] at GC hgl
  have HG := Lib.hid hg
  simp only at GC hgl
  clear hg
  go_wp2_with fail
  refine GC.mono ?_
  rintro _ w2 ⟨rfl, j, hj1, hj2, H2⟩
  clear GC H1
  by_cases hge : ge ≠ 0
  · have HNO : Hid (∀ xs, ¬ Cnd n b xs) := Lib.hid fun xs h => by
      have := HMANY.out xs h
      rw [HG.out] at this
      simp only [Prod.mk.injEq] at this
      exact hge this.2.2
    have hgi : ¬ (ge : Int) = 0 := by omega
    have hgb : ((ge : Int) != 0) = true := by rw [bne_iff_ne]; exact hgi
    clear hj2 hge
    go_wp2_with fail
    go_ret2
    exact ⟨_, rfl, .inr ⟨HNO.out, rfl, H2.tail⟩⟩
  obtain rfl : ge = 0 := by omega
  have hjj : j = 0 + gs := hj2 (by first | rfl | trivial)
  have hcm : ∀ xs, Cnd n b xs → gv = (rcls xs).length ∧ gs = sizeN gv := fun xs h => by
    have := HMANY.out xs h
    rw [HG.out] at this
    simp only [Prod.mk.injEq] at this
    exact ⟨this.1, by rw [this.1]; exact this.2.1⟩
  have HCM := Lib.hid hcm
  have HJ0 := Lib.hid hjj
  clear hj2 hcm hge hjj
  by_cases hbig : b.length < gv
  · have HNO : Hid (∀ xs, ¬ Cnd n b xs) := Lib.hid fun xs h => by
      have h1 := (HCM.out xs h).1
      have h2 := (HSM.out xs h).2
      omega
    have hgi : (b.length : Int) < (gv : Int) := by omega
    go_wp2_with fail
    go_ret2
    exact ⟨_, rfl, .inr ⟨HNO.out, rfl, H2.tail⟩⟩
  have hgi : ¬ (b.length : Int) < (gv : Int) := by omega
  have hR0 : Rows n b gv [] j := fun xs h => ⟨(HCM.out xs h).1, by simp, by rw [HJ0.out, ← (HCM.out xs h).2]; simp⟩
  have HR0 := Lib.hid hR0
  clear hR0
  have H3 := H2.row_nil 5 1
  clear H2
  go_wp2_with fail
  go_loopg [9, 36] gv (fun gk u i wr => ∃ (t j : Nat) (rows : List Nat) (ua : Option Addr) (uc : Nat), Hid (t ≤ gv ∧ gk = gv - t ∧ rows.length = t ∧ (∀ x ∈ rows, x < 256) ∧ Rows n b gv rows j ∧ j ≤ (allBits b).length) ∧ u = .slice ua t uc ∧ i = .int .u64 (t : Int) ∧ Sep wr (HP.row 5 1 (.slice ua t uc) t (rows.map bv) :: Rdr q (allBits b) j :: F))
  case atStart => exact ⟨0, j, [], none, 0, Lib.hid ⟨by omega, rfl, rfl, by simp, HR0.out, hj1⟩, rfl, rfl, H3⟩
  case round =>
    clear H3 hj1 HR0 HJ0
    obtain ⟨t, j, rows, ua, uc, hq, rfl, rfl, Hr⟩ := hrel
    obtain ⟨q1, q2, q3, q4, q5, q6⟩ := hq.out
    have Q3 := Lib.hid q3
    have Q4 := Lib.hid q4
    have Q5 := Lib.hid q5
    clear hq q3 q4 q5
    by_cases ht : t < gv
    · have hti : (t : Int) < (gv : Int) := by omega
      have hrl : rows.length < gv := by rw [Q3.out]; exact ht
      by_cases h8 : j + 8 ≤ (allBits b).length
      · have GC := get_int (n := 8) (by omega) (by omega) (show j + (8 : Int).toNat ≤ _ from h8) HB.out Hr.swap
        have HST := Lib.hid fun (v : Nat) (h : ofBits (((allBits b).drop j).take 8) = v) => rows_step hn Q5.out hrl h
        have hvl : ofBits (((allBits b).drop j).take 8) < 256 := by
          have := ofBits_lt (((allBits b).drop j).take 8)
          rw [List.length_take, List.length_drop, Nat.min_eq_left (by omega)] at this
          exact this
        have h8n : (8 : Int).toNat = 8 := rfl
        rw [h8n] at GC
        generalize ofBits (((allBits b).drop j).take 8) = V at *
        have HVL := Lib.hid hvl
        have hwr : IntKind.u8.wrap (V : Int) = (V : Int) := by
          simp only [IntKind.wrap, IntKind.signed, IntKind.bits]
          first | omega | (simp; omega)
        clear hrl
        go_wp2_with fail
        refine GC.mono ?_
        rintro _ w5 ⟨rfl, H5⟩
        clear GC Hr
        have HA := H5.alloc #[.int .u8 (V : Int)] 5
        have hrn := rd_new HA
        have HB2 := HA.rot3
        have h63 : t + 1 ≤ maxLen := by unfold maxLen; omega
        have hby : (t + 1) * 1 ≤ 140737488355328 := by omega
        have HM : Hid (rows.map bv ++ [.int .u8 (V : Int)] = (rows ++ [V]).map bv) := Lib.hid (by rw [List.map_append]; rfl)
        clear HA
        go_wp2_with ((at_builtin; go_must (refine wpList_append_src rfl (.tmp 45) (.tmp 48) 33 rfl 5 (.int .u8 0) 1 1 Try.underlying33 info_u8 rfl (by decide) (.slice ua t uc) t _ rfl HB2 (.slice (some ⟨w5.heap.size, 0, none⟩) 1 1) 1 [.int .u8 (V : Int)] rfl hrn (by intro u hu; simp at hu; subst hu; rfl) h63 hby ?_); intro v7 w7 H7; obtain ⟨va, vc, hv7⟩ := H7.row_form; subst hv7))
        rw [HM.out] at H7
        have H8 := H7.swap.tail
        clear H7 HB2 hrn
        go_roundg (gv - (t + 1))
        case rel => exact ⟨t + 1, j + 8, rows ++ [V], va, vc, Lib.hid ⟨by omega, rfl, by rw [List.length_append, Q3.out]; rfl, fun x hx => by
          rcases List.mem_append.1 hx with hx | hx
          · exact Q4.out x hx
          · obtain rfl : x = V := by simpa using hx
            exact HVL.out, HST.out V rfl, by omega⟩, rfl, by go_num, H8⟩
        case measure => omega
      · have HNO : Hid (∀ xs, ¬ Cnd n b xs) := Lib.hid fun xs h => h8 (rows_next hn Q5.out hrl xs h).1
        have GC := get_end_int (n := 8) (by omega) (by omega) q6 HB.out (show _ < j + (8 : Int).toNat by have : (8 : Int).toNat = 8 := rfl; omega) Hr.swap
        clear hrl
        go_wp2_with fail
        refine GC.mono ?_
        rintro _ w5 ⟨rfl, m, rfl⟩
        have H5 := Hr.drewN m
        clear GC Hr
        go_wp2_with fail
        go_ret2
        exact ⟨_, rfl, .inr ⟨HNO.out, rfl, H5.tail.tail⟩⟩
    · obtain rfl : t = gv := by omega
      have hti : ¬ (t : Int) < (t : Int) := by omega
      have HRW : Hid (∀ xs, Cnd n b xs → rows = rcls xs ∧ j = sizeN (rcls xs).length + 8 * (rcls xs).length) := Lib.hid fun xs h => by
        obtain ⟨h1, h2, h3⟩ := Q5.out xs h
        rw [List.take_of_length_le (by rw [Q3.out]; omega)] at h2
        rw [Q3.out] at h3
        exact ⟨h2, by rw [h3, h1]⟩
      have CC := contexts_calls hn Hr
      have hchk : chkE 24 3 (zs (cxs (3 * n))) = 0 := Row5.chk (N := 24) (C := 3) (ss := List.replicate (3 * n) 0) (cs := cxs (3 * n)) ⟨by decide, by decide, by decide, by decide, by rw [cxs_length, List.length_replicate], by rw [List.length_replicate]; omega, fun x hx => by rw [(List.mem_replicate.1 hx).2]; decide, fun x hx => cxs_lt x hx⟩
      have hzl : (zs (cxs (3 * n))).length = 3 * n := by rw [zs_length, cxs_length]
      have DEC : Hid (∀ (w' : World) (ca : Option Addr) (cc : Nat), Sep w' (HP.row 3 1 (.slice ca (3 * n) cc) (3 * n) ((cxs (3 * n)).map dv) :: HP.row 5 1 (.slice ua t uc) t (rows.map bv) :: Rdr q (allBits b) j :: F) → Calls Try.prog 30 #[.slice ua t uc, .int .i64 24, .int .i64 3, .slice ca (3 * n) cc] w' (Gives fun r w2 =>
          (∃ ss x y, RowOk 24 (3 * n) ss ∧ (∀ xs, Cnd n b xs → ss = xs.map Lib.bitLen) ∧ r = .tuple #[.slice x (3 * n) y, .int .i64 0] ∧ Sep w2 (HP.row 3 1 (.slice x (3 * n) y) (3 * n) (ss.map dv) :: HP.row 3 1 (.slice ca (3 * n) cc) (3 * n) ((cxs (3 * n)).map dv) :: HP.row 5 1 (.slice ua t uc) t (rows.map bv) :: Rdr q (allBits b) j :: F)) ∨
          ((∀ xs, ¬ Cnd n b xs) ∧ r = .tuple #[.slice none 0 0, .int .i64 3] ∧ Sep w2 (HP.row 3 1 (.slice ca (3 * n) cc) (3 * n) ((cxs (3 * n)).map dv) :: HP.row 5 1 (.slice ua t uc) t (rows.map bv) :: Rdr q (allBits b) j :: F)))) := Lib.hid fun w' ca cc h => by
        have hcap := h.tail.row_cap
        have hM := mdecode_calls (a := ua) (cap := uc) (u := .slice ca (3 * n) cc) (n := 24) (cx := 3) (ctx := zs (cxs (3 * n))) (b := rows) (F := HP.row 3 1 (.slice ca (3 * n) cc) (3 * n) ((cxs (3 * n)).map dv) :: HP.row 5 1 (.slice ua t uc) t (rows.map bv) :: Rdr q (allBits b) j :: F) (w := w') (by rw [Q3.out]; exact hcap) Q4.out (by rw [Q3.out]; omega) (by rw [Q3.out]; exact Reads.cons Reads.row) (by rw [hzl, zs_iv]; exact Reads.row) h
        rw [Q3.out] at hM
        refine hM.mono ?_
        have hrow : ∀ xs, Cnd n b xs → RowOk (24 : Int).toNat (zs (cxs (3 * n))).length (xs.map Lib.bitLen) ∧ encN (24 : Int).toNat (xs.map Lib.bitLen) ((zs (cxs (3 * n))).map Int.toNat) = rows := fun xs hc => by
          have h1 := (HRW.out xs hc).1
          refine ⟨⟨by rw [hzl, List.length_map, hc.2.1, Nat.mul_comm], fun s hs => ?_⟩, ?_⟩
          · obtain ⟨x, hx, rfl⟩ := List.mem_map.1 hs
            have := bitLen_fine (hc.1 x hx)
            show Lib.bitLen x < 24
            omega
          · rw [zs_nat, h1]
            unfold rcls
            rw [hc.2.1, Nat.mul_comm n 3]
            rfl
        rintro e w2 ⟨r, rfl, ⟨hf, -, -⟩ | ⟨-, ss, x, hok, -, huq, rfl, H2⟩ | ⟨-, hno, rfl, H2⟩⟩
        · exact absurd hchk hf
        · rw [hzl] at H2 hok
          obtain ⟨x, y, rfl⟩ := H2.row_form
          exact ⟨_, rfl, .inl ⟨ss, x, y, hok, fun xs hc => huq _ (hrow xs hc).1 (hrow xs hc).2, rfl, H2⟩⟩
        · exact ⟨_, rfl, .inr ⟨fun xs hc => hno _ (hrow xs hc).1 (hrow xs hc).2, rfl, H2⟩⟩
      clear hchk hzl
      go_wp2_with fail
      refine CC.mono ?_
      rintro _ w4 ⟨_, rfl, H4⟩
      obtain ⟨ca, cc, rfl⟩ := H4.row_form
      clear CC Hr
      have DC := DEC.out _ _ _ H4
      clear DEC H4
      go_wp2_with fail
      refine DC.mono ?_
      rintro _ w5 ⟨_, rfl, ⟨ss, xa, xc, hok, hss, rfl, H5⟩ | ⟨hno, rfl, H5⟩⟩
      rotate_left
      · have HNO := Lib.hid hno
        clear hno DC
        go_wp2_with fail
        go_ret2
        exact ⟨_, rfl, .inr ⟨HNO.out, rfl, H5.tail.tail.tail⟩⟩
      have HOK := Lib.hid hok
      have HSS := Lib.hid hss
      clear hok hss DC
      go_wp2_with ((at_make; go_must (refine wpList_make_three rfl _ _ 30 rfl 29 (.int .u64 0) 24 Try.underlying30 info_arr H5 .i64 .i64 _ _ n rfl rfl rfl rfl (by omega) (by unfold maxLen; omega) ?_); intro g w6 H6))
      clear H5
      have e0 : List.replicate (n * 3) (Value.int .u64 0) = ([] : List Nat).map uv ++ List.replicate (n * 3 - 0) (Value.int .u64 0) := by simp
      rw [e0] at H6
      have hNum : Nums n b [] j := fun xs hc => ⟨by simp, by rw [(HRW.out xs hc).2]; simp [rowR]⟩
      have HNum := Lib.hid hNum
      clear e0 hNum
      go_wp2_with fail
      go_loopg [64] (3 * n) (fun gk i wr => ∃ (k j : Nat) (out : List Nat), Hid (k ≤ 3 * n ∧ gk = 3 * n - k ∧ out.length = k ∧ (∀ x ∈ out, x ≤ 18446744073709551615) ∧ Nums n b out j ∧ j ≤ (allBits b).length) ∧ i = .int .i64 (k : Int) ∧ Sep wr (HP.row 29 3 (.slice (some ⟨g, 0, none⟩) n n) n (out.map uv ++ List.replicate (n * 3 - k) (Value.int .u64 0)) :: HP.row 3 1 (.slice xa (3 * n) xc) (3 * n) (ss.map dv) :: HP.row 3 1 (.slice ca (3 * n) cc) (3 * n) ((cxs (3 * n)).map dv) :: HP.row 5 1 (.slice ua t uc) t (rows.map bv) :: Rdr q (allBits b) j :: F))
      case atStart => exact ⟨0, j, [], Lib.hid ⟨by omega, rfl, rfl, by simp, HNum.out, q6⟩, rfl, H6⟩
      case round =>
        clear H6 q6
        obtain ⟨k, j, out, hq, rfl, Hr⟩ := hrel
        obtain ⟨p1, p2, p3, p4, p5, p6⟩ := hq.out
        have P3 := Lib.hid p3
        have P4 := Lib.hid p4
        have P5 := Lib.hid p5
        clear hq p3 p4 p5
        by_cases hk : k < 3 * n
        · have hks : k < ss.length := by rw [HOK.out.1]; exact hk
          have hrc := Hr.tail.rd
          obtain ⟨g6, o6, cp6, he⟩ := hrc.open (by omega)
          simp only [Value.slice.injEq, true_and] at he
          obtain ⟨rfl, rfl⟩ := he
          have kb := hrc.cell k (dv_at (List.getElem?_eq_getElem hks))
          have hs24 := HOK.out.2 _ (List.getElem_mem hks)
          have HCL : Hid (∀ xs, Cnd n b xs → (xs.map Lib.bitLen)[out.length]? = some ss[k]) := Lib.hid fun xs hc => by
            rw [P3.out, ← HSS.out xs hc]
            exact List.getElem?_eq_getElem hks
          have hol : out.length < n * 3 := by rw [P3.out]; omega
          obtain ⟨a', ha⟩ : ∃ a', a' = k / 3 := ⟨_, rfl⟩
          obtain ⟨b', hb⟩ : ∃ b', b' = k % 3 := ⟨_, rfl⟩
          have hab : a' * 3 + b' = k := by omega
          have HAB := Lib.hid hab
          have HLC : Hid ((out.map uv ++ List.replicate (n * 3 - k) (Value.int .u64 0))[a' * 3 + b']? = some (.int .u64 0)) := Lib.hid (by
            rw [hab, List.getElem?_append_right (by rw [List.length_map, P3.out]; exact Nat.le_refl _), List.length_map, P3.out, Nat.sub_self, List.getElem?_replicate, if_pos (by omega)])
          have kc : wr.cell? ⟨g, a' * 3 + b', none⟩ = some (.int .u64 0) := Hr.row_celln _ HLC.out
          have kf := Hr.row_froz (a' * 3 + b')
          have HSET : Hid (∀ x : Nat, (out.map uv ++ List.replicate (n * 3 - k) (Value.int .u64 0)).set (a' * 3 + b') (.int .u64 (x : Int)) = (out ++ [x]).map uv ++ List.replicate (n * 3 - (k + 1)) (Value.int .u64 0)) := Lib.hid fun x => by
            rw [hab, List.set_append_right _ _ (by rw [List.length_map, P3.out]; exact Nat.le_refl _), List.length_map, P3.out, Nat.sub_self, show n * 3 - k = (n * 3 - (k + 1)) + 1 by omega, List.replicate_succ, List.set_cons_zero, List.map_append, List.append_assoc]
            rfl
          have hq1 : (k : Int).tdiv 3 = (a' : Int) := by rw [Int.tdiv_eq_ediv_of_nonneg (by omega)]; omega
          have hq2 : (k : Int) / 3 = (a' : Int) := by omega
          have hq3 : (k : Int).tmod 3 = (b' : Int) := by rw [Int.tmod_eq_emod_of_nonneg (by omega)]; omega
          have hq4 : (k : Int) % 3 = (b' : Int) := by omega
          have ha3 : (a' : Int) < (n : Int) := by omega
          have hb3 : (b' : Int) < 3 := by omega
          have hn0 : n ≠ 0 := by omega
          have hki : (k : Int) < ((3 * n : Nat) : Int) := by omega
          have hki2 : (k : Int) < 3 * (n : Int) := by omega
          generalize ss[k] = kk at *
          clear hrc ha hb hab
          by_cases hk1 : kk ≤ 1
          · have hbi : ¬ (1 : Int) < (kk : Int) := by omega
            have H7 := Hr.row_setn hn0 (a' * 3 + b') (.int .u64 (kk : Int))
            rw [HSET.out] at H7
            have HNX : Hid (Nums n b (out ++ [kk]) j) := Lib.hid (nums_short hn P5.out hol HCL.out hk1)
            clear hol hn0
            go_wp2_with fail
            go_roundg (3 * n - (k + 1))
            case rel => exact ⟨k + 1, j, out ++ [kk], Lib.hid ⟨by omega, rfl, by rw [List.length_append, P3.out]; rfl, fun x hx => by
              rcases List.mem_append.1 hx with hx | hx
              · exact P4.out x hx
              · obtain rfl : x = kk := by simpa using hx
                omega, HNX.out, p6⟩, by go_num, H7⟩
            case measure => omega
          · obtain ⟨e, rfl⟩ : ∃ e, kk = e + 1 := ⟨kk - 1, by omega⟩
            have he1 : 1 ≤ e := by omega
            have hbi : (1 : Int) < ((e + 1 : Nat) : Int) := by omega
            have hbi2 : (1 : Int) < (e : Int) + 1 := by omega
            obtain ⟨NL1, NL2⟩ := nums_long hn P5.out hol he1 HCL.out
            have NL1 := Lib.hid NL1
            have NL2 := Lib.hid NL2
            clear hol
            by_cases hje : j + e ≤ (allBits b).length
            · have GC := get_int (n := (e : Int)) (by omega) (by omega) (show j + (e : Int).toNat ≤ _ by rw [Int.toNat_natCast]; exact hje) HB.out (Hr.rot5)
              rw [Int.toNat_natCast] at GC
              have hvl : ofBits (((allBits b).drop j).take e) < 2 ^ e := by
                have := ofBits_lt (((allBits b).drop j).take e)
                rw [List.length_take, List.length_drop, Nat.min_eq_left (by omega)] at this
                exact this
              have hpe : 2 ^ e ≤ 8388608 := Nat.le_trans (Nat.pow_le_pow_right (by decide) (show e ≤ 23 by omega)) (by decide)
              have HNX := Lib.hid (NL2.out _ rfl)
              generalize ofBits (((allBits b).drop j).take e) = V at *
              have hp : ((2 : Int) ^ e) = ((2 ^ e : Nat) : Int) := by simp
              have hw : IntKind.u64.wrap (IntKind.u64.wrap (2 ^ e) + (V : Int)) = ((2 ^ e + V : Nat) : Int) := by
                rw [hp]
                generalize 2 ^ e = P at *
                have h1 : IntKind.u64.wrap (P : Int) = (P : Int) := by
                  simp only [IntKind.wrap, IntKind.signed, IntKind.bits]
                  first | omega | (simp; omega)
                rw [h1]
                simp only [IntKind.wrap, IntKind.signed, IntKind.bits]
                first | omega | (simp; omega)
              have HVB : Hid (2 ^ e + V ≤ 18446744073709551615) := Lib.hid (by omega)
              clear hp hpe hvl
              generalize 2 ^ e + V = X at *
              go_wp2_with fail
              refine GC.mono ?_
              rintro _ w7 ⟨rfl, H7⟩
              clear GC Hr kb kc kf
              have H8 := H7.mid4
              have kc := H8.row_celln _ HLC.out
              have kf := H8.row_froz (a' * 3 + b')
              have H9 := H8.row_setn hn0 (a' * 3 + b') (.int .u64 (X : Int))
              rw [HSET.out] at H9
              clear H7
              go_wp2_with fail
              go_roundg (3 * n - (k + 1))
              case rel => exact ⟨k + 1, j + e, out ++ [X], Lib.hid ⟨by omega, rfl, by rw [List.length_append, P3.out]; rfl, fun x hx => by
                rcases List.mem_append.1 hx with hx | hx
                · exact P4.out x hx
                · obtain rfl : x = X := by simpa using hx
                  exact HVB.out, HNX.out, by omega⟩, by go_num, H9⟩
              case measure => omega
            · have HNO : Hid (∀ xs, ¬ Cnd n b xs) := Lib.hid fun xs hc => hje (NL1.out xs hc)
              have GC := get_end_int (n := (e : Int)) (by omega) (by omega) p6 HB.out (show _ < j + (e : Int).toNat by rw [Int.toNat_natCast]; omega) (Hr.rot5)
              go_wp2_with fail
              refine GC.mono ?_
              rintro _ w7 ⟨rfl, m, rfl⟩
              have H7 := Hr.drewN m
              clear GC Hr kb kc kf
              go_wp2_with fail
              go_ret2
              exact ⟨_, rfl, .inr ⟨HNO.out, rfl, H7.tail.tail.tail.tail.tail⟩⟩
        · obtain rfl : k = 3 * n := by omega
          have hki : ¬ ((3 * n : Nat) : Int) < ((3 * n : Nat) : Int) := by omega
          have hki2 : ¬ 3 * (n : Int) < 3 * (n : Int) := by omega
          have hz : List.replicate (n * 3 - 3 * n) (Value.int .u64 0) = [] := by rw [show n * 3 - 3 * n = 0 by omega]; rfl
          rw [hz, List.append_nil] at Hr
          have HUN : Hid (∀ xs, Cnd n b xs → out = xs) := Lib.hid fun xs hc => by
            have := (P5.out xs hc).1
            rw [P3.out, List.take_of_length_le (by rw [hc.2.1]; omega)] at this
            exact this
          have HOL : Hid (out.length = n * 3) := Lib.hid (by rw [P3.out]; omega)
          clear hz
          go_wp2_with fail
          go_ret2
          exact ⟨_, rfl, .inl ⟨out, _, HOL.out, P4.out, HUN.out, rfl, Hr.swap.tail.swap.tail.swap.tail.swap.tail⟩⟩

end Go.Proofs.Ytbhpcpcpccmacaa
