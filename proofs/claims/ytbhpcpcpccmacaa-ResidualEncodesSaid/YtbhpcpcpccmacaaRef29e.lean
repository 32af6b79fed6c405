/- reference 29: Classed. -/
import Derived.Test.YtbhpcpcpccmacaaRef29d
namespace Go.Proofs.Ytbhpcpcpccmacaa
open Go.RowKit Go.Shelf

theorem restB_drop {x e : Nat} (he : Lib.bitLen x = e + 1) : ∃ t, valBits x (e + 1) = t :: restB x := by
  refine ⟨x.testBit e, ?_⟩
  rw [valBits_cons]
  unfold restB
  rw [he]
  rfl
/-- Bits, and what stands behind each number's first digit. -/
def lR (L : List Bool) (xs : List Nat) : List Bool := L ++ rowR xs
theorem lR_nil (L : List Bool) : lR L [] = L := List.append_nil L

set_option maxRecDepth 100000 in
set_option maxHeartbeats 8000000 in
theorem rclassed29_calls {v u : Value} {n : Nat} {xs cls : List Nat} {F : List HP} {w : World} (hf : Fine xs) (hn : n ≤ 4096) (hcl : cls.length ≤ 8000) (hc : ∀ d ∈ cls, d < 256) (hrd : Reads F v n 3 (xs.map uv)) (hru : Reads F u cls.length 1 (cls.map bv)) (H : Sep w F) :
    Calls Try.prog 39 #[v, u] w (Gives fun r w' => Sep w' (HP.row 5 1 r (clsB xs cls).length ((clsB xs cls).map bv) :: F)) := by
  obtain ⟨va, vc, rfl⟩ := (hrd w H).form
  obtain ⟨ca, cc, rfl⟩ := (hru w H).form
  have hl : xs.length = n * 3 := by have := (hrd w H).1; rw [List.length_map] at this; exact this
  have HL := Lib.hid hl
  have HF := Lib.hid hf
  have HRR : Hid (∀ L, Fine L → L.length ≤ n * 3 + 3 → (rowR L).length ≤ 300000) := Lib.hid fun L h1 h2 => by
    have := rowR_le h1
    omega
  have GC := rgamma_calls (u := cls.length) (by omega) H
  have hs := sizeN cls.length
  have hsz : sizeN cls.length ≤ 65 := by
    have := halfN_le (n := cls.length) (by omega)
    unfold sizeN
    omega
  have hll := longN_length cls.length
  have ALL := Lib.hid fun (X : HP) (w' : World) (h : Sep w' (X :: F)) => all_calls (v := .slice ca cls.length cc) (by omega) hc hru.cons h
  have hal := allBits_length cls
  have HPB : Hid (clsB xs cls = 1 :: pk (longN cls.length ++ allBits cls ++ rowR xs)) := Lib.hid rfl
  clear hs hl hf
  generalize longN cls.length = L1 at *
  generalize sizeN cls.length = m1 at *
  generalize allBits cls = L2 at *
  have hm2 : 8 * cls.length ≤ 64000 := by omega
  generalize hm : 8 * cls.length = m2 at *
  clear hm
  go_enter Try.func39, Try.ntmps39
  go_wp2_with fail
  refine GC.mono ?_
  rintro _ w1 ⟨r1, rfl, H1⟩
  obtain ⟨ga, gc, rfl⟩ := H1.row_form
  clear GC H
  have AC := ALL.out _ _ H1
  go_wp2_with fail
  refine AC.mono ?_
  rintro _ w2 ⟨r2, rfl, H2⟩
  obtain ⟨aa, ac, rfl⟩ := H2.row_form
  have hrd2 := H2.rd
  have h63 : m1 + m2 ≤ maxLen := by unfold maxLen; omega
  have hby : (m1 + m2) * 8 ≤ 140737488355328 := by omega
  clear AC H1 ALL
  go_wp2_with ((at_builtin; go_must (refine wpList_append_src rfl (.tmp 13) (.tmp 15) 40 rfl 3 (.int .i64 0) 1 8 Try.underlying40 info_int rfl (by decide) (.slice ga m1 gc) m1 _ rfl H2.swap (.slice aa m2 ac) _ _ rfl hrd2 (bitv_one _) h63 hby ?_); intro v7 w7 H7; obtain ⟨oa, oc, hv7⟩ := H7.row_form; subst hv7))
  have H8 := H7.swap.tail
  have hm12 : m1 + m2 = (L1 ++ L2).length := by rw [List.length_append, hll, hal]
  have hmap : L1.map bitv ++ L2.map bitv = (L1 ++ L2).map bitv := by rw [List.map_append]
  rw [hm12, hmap] at H8
  have HM12 := Lib.hid hm12
  have hL12 : (L1 ++ L2).length ≤ 70000 := by omega
  clear hm12 hmap H7 H2 hrd2 hll hal h63 hby hm2 hsz
  rw [HM12.out]
  generalize L1 ++ L2 = L at *
  go_wp2_with fail
  go_loopg [5, 6] n (fun gk u i wr => ∃ (t : Nat) (ua : Option Addr) (uc : Nat), Hid (t ≤ n ∧ gk = n - t) ∧ u = .slice ua (lR L (xs.take (t * 3))).length uc ∧ i = .int .i64 (t : Int) ∧ Sep wr (HP.row 3 1 (.slice ua (lR L (xs.take (t * 3))).length uc) (lR L (xs.take (t * 3))).length ((lR L (xs.take (t * 3))).map bitv) :: F))
  case atStart => exact ⟨0, oa, oc, Lib.hid ⟨by omega, rfl⟩, by rw [Nat.zero_mul, List.take_zero]; rw [lR_nil], rfl, by rw [Nat.zero_mul, List.take_zero]; rw [lR_nil]; exact H8⟩
  case round =>
    clear H8
    obtain ⟨t, ua, uc, hq, rfl, rfl, Hr⟩ := hrel
    obtain ⟨q1, q2⟩ := hq.out
    clear hq
    by_cases ht : t < n
    · obtain ⟨g, o, cap, he⟩ := (hrd _ Hr.tail).open (by omega)
      simp only [Value.slice.injEq, true_and] at he
      obtain ⟨rfl, rfl⟩ := he
      obtain ⟨a, b, c, h0, h1, h2, h3, ma, mb, mc⟩ := three_at HL.out ht
      have hti : (t : Int) < (n : Int) := by omega
      have HB3 : Hid (xs.take ((t + 1) * 3) = xs.take (t * 3) ++ [a, b, c]) := Lib.hid (by rw [h3, List.append_assoc, List.append_assoc]; rfl)
      have hfa := HF.out a ma
      have hfb := HF.out b mb
      have hfc := HF.out c mc
      have HCELL : Hid (∀ (k x : Nat), [a, b, c][k]? = some x → ∀ w', Sep w' F → w'.cell? ⟨g, o + t * 3 + k, none⟩ = some (.int .u64 (x : Int))) := Lib.hid fun k x hx w' hs => by
        match k, hx with
        | 0, hx => simp at hx; subst hx; exact (hrd _ hs).three (j := 0) h0
        | 1, hx => simp at hx; subst hx; exact (hrd _ hs).three (j := 1) h1
        | 2, hx => simp at hx; subst hx; exact (hrd _ hs).three (j := 2) h2
      have HLE : Hid (∀ k, (lR L (xs.take (t * 3) ++ [a, b, c].take k)).length ≤ 400000) := Lib.hid fun k => by
        have h5 : (xs.take (t * 3) ++ [a, b, c].take k).length ≤ n * 3 + 3 := by
          rw [List.length_append, List.length_take, List.length_take]
          have : [a, b, c].length = 3 := rfl
          omega
        have h6 : Fine (xs.take (t * 3) ++ [a, b, c].take k) := by
          intro y hy
          rcases List.mem_append.1 hy with hy | hy
          · exact HF.out y (List.mem_of_mem_take hy)
          · have := List.mem_of_mem_take hy
            simp at this
            omega
        have := HRR.out _ h6 h5
        unfold lR
        rw [List.length_append]
        omega
      clear h0 h1 h2 h3 ma mb mc
      generalize xs.take (t * 3) = L0 at *
      go_wp2_with fail
      go_loopg [5, 7] 3 (fun gk u i wr => ∃ (k : Nat) (ua : Option Addr) (uc : Nat), Hid (k ≤ 3 ∧ gk = 3 - k) ∧ u = .slice ua (lR L (L0 ++ [a, b, c].take k)).length uc ∧ i = .int .i64 (k : Int) ∧ Sep wr (HP.row 3 1 (.slice ua (lR L (L0 ++ [a, b, c].take k)).length uc) (lR L (L0 ++ [a, b, c].take k)).length ((lR L (L0 ++ [a, b, c].take k)).map bitv) :: F))
      case atStart => exact ⟨0, ua, uc, Lib.hid ⟨by omega, rfl⟩, by rw [List.take_zero, List.append_nil], rfl, by rw [List.take_zero, List.append_nil]; exact Hr⟩
      case round =>
        clear Hr
        obtain ⟨k, ua, uc, hq, rfl, rfl, Hr⟩ := hrel
        obtain ⟨q3, q4⟩ := hq.out
        clear hq
        by_cases hk : k < 3
        · obtain ⟨x, hx, hor⟩ := three_get a b c hk
          have HKC := Lib.hid (HCELL.out k x hx)
          have kc := HKC.out _ Hr.tail
          have hx4 : x ≤ 4194304 := by omega
          have HS := Lib.hid (rowR_snoc (L0 ++ [a, b, c].take k) x)
          have HNX := Lib.hid (three_next hx L0)
          have hb := HLE.out k
          have hki : (k : Int) < 3 := by omega
          have CL := rclass_calls (u := x) (w := wr) (by omega)
          have hbl := bitLen_fine hx4
          clear hx hor
          by_cases hb1 : Lib.bitLen x ≤ 1
          · have hbi : ¬ (1 : Int) < (Lib.bitLen x : Int) := by omega
            have HC : Hid (lR L (L0 ++ [a, b, c].take (k + 1)) = lR L (L0 ++ [a, b, c].take k)) := Lib.hid (by unfold lR; rw [HNX.out, HS.out, restB_short hb1, List.append_nil])
            generalize Lib.bitLen x = bl at *
            go_wp2_with fail
            refine CL.mono ?_
            rintro _ _ ⟨rfl, rfl⟩
            clear CL
            go_wp2_with fail
            go_roundg (3 - (k + 1))
            case rel => exact ⟨k + 1, ua, uc, Lib.hid ⟨by omega, rfl⟩, by rw [HC.out], by go_num, by rw [HC.out]; exact Hr⟩
            case measure => omega
          · obtain ⟨e, he⟩ : ∃ e, Lib.bitLen x = e + 1 := ⟨Lib.bitLen x - 1, by omega⟩
            obtain ⟨t0, htb⟩ := restB_drop he
            have hrl := restB_length x
            rw [he, Nat.add_sub_cancel] at hrl
            have VC := value_int (v := (x : Int)) (n := ((e + 1 : Nat) : Int)) (by omega) (by omega) (by omega) (by omega) Hr
            rw [Int.toNat_natCast, Int.toNat_natCast, htb] at VC
            rw [he] at CL
            have he2 : ((e + 1 : Nat) : Int) = (e : Int) + 1 := by omega
            rw [he2] at CL VC
            have HC : Hid (lR L (L0 ++ [a, b, c].take (k + 1)) = lR L (L0 ++ [a, b, c].take k) ++ restB x) := Lib.hid (by unfold lR; rw [HNX.out, HS.out, List.append_assoc])
            have he1 : 1 ≤ e := by omega
            have he22 : e ≤ 22 := by omega
            have hbi : (1 : Int) < (e : Int) + 1 := by omega
            have HRL := Lib.hid hrl
            clear hb1 he htb hrl he2
            generalize restB x = rb at *
            generalize lR L (L0 ++ [a, b, c].take k) = G0 at *
            generalize hgl : lR L (L0 ++ [a, b, c].take (k + 1)) = G1 at *
            have HGL := Lib.hid hgl
            clear hgl
            go_wp2_with fail
            refine CL.mono ?_
            rintro _ _ ⟨rfl, rfl⟩
            clear CL
            go_wp2_with fail
            refine VC.mono ?_
            rintro _ w5 ⟨r5, rfl, H5⟩
            obtain ⟨g5, cp5, _, he5, hcp5, -⟩ := H5.row_open (by omega)
            subst he5
            have hrd5 := RdS.rest H5.rd hcp5
            rw [show (e + 1 - 1) = e by omega] at hrd5
            rw [if_neg (show ¬ cp5 = 1 by omega), Nat.zero_add] at hrd5
            have hc0 : ¬ cp5 = 0 := by omega
            have hc1 : ¬ cp5 = 1 := by omega
            have h63 : G0.length + e ≤ maxLen := by unfold maxLen; omega
            have hby : (G0.length + e) * 8 ≤ 140737488355328 := by omega
            have hG1 : G0.length + e = G1.length := by rw [HC.out, List.length_append, HRL.out]
            have hG1m : G0.map bitv ++ rb.map bitv = G1.map bitv := by rw [HC.out, List.map_append]
            have HH := Lib.hid hG1
            have HHM := Lib.hid hG1m
            have H6 := H5.swap
            clear VC hG1 hG1m
            go_wp2_with ((at_builtin; go_must (refine wpList_append_src rfl (.tmp 36) (.tmp 45) 40 rfl 3 (.int .i64 0) 1 8 Try.underlying40 info_int rfl (by decide) (.slice ua G0.length uc) G0.length _ rfl H6 (.slice (some ⟨g5, 1, none⟩) e (cp5 - 1)) e _ rfl hrd5 (bitv_one _) h63 hby ?_); intro v7 w7 H7; obtain ⟨va2, vc2, hv7⟩ := H7.row_form; subst hv7))
            rw [HH.out, HHM.out] at H7
            rw [HH.out]
            have H8 := H7.swap.tail
            clear H7 H6 H5 hrd5 Hr
            go_wp2_with fail
            go_roundg (3 - (k + 1))
            case rel => exact ⟨k + 1, va2, vc2, Lib.hid ⟨by omega, rfl⟩, by rw [HGL.out], by go_num, by rw [HGL.out]; exact H8⟩
            case measure => omega
        · obtain rfl : k = 3 := by omega
          have hki : ¬ (3 : Int) < 3 := by omega
          have HL1 : Hid (L0 ++ [a, b, c].take 3 = xs.take ((t + 1) * 3)) := Lib.hid HB3.out.symm
          rw [HL1.out] at Hr ⊢
          go_wp2_with fail
          go_roundg (n - (t + 1))
          case rel => exact ⟨t + 1, ua, uc, Lib.hid ⟨by omega, rfl⟩, rfl, by go_num, Hr⟩
          case measure => omega
    · obtain rfl : t = n := by omega
      have hti : ¬ (t : Int) < (t : Int) := by omega
      rw [List.take_of_length_le (by rw [HL.out]; exact Nat.le_refl _)] at Hr ⊢
      have HPB2 : Hid (clsB xs cls = 1 :: pk (lR L xs)) := Lib.hid HPB.out
      have hLL : (lR L xs).length ≤ 400000 := by
        have h5 : xs.length ≤ t * 3 + 3 := by rw [HL.out]; omega
        have := HRR.out xs HF.out h5
        unfold lR
        rw [List.length_append]
        omega
      generalize lR L xs = R at *
      have HA := Hr.alloc #[.int .u8 1] 5
      have HN : Sep _ (HP.row 5 1 (.slice (some ⟨wr.heap.size, 0, none⟩) 1 1) 1 [.int .u8 1] :: _) := Sep.row_shut HA (Nat.le_refl _) (by unfold maxLen; omega) rfl rfl
      have BO := rbytes_calls (v := .slice ua R.length uc) (l := R) (by omega) (by exact Reads.cons Reads.row) HN
      have hpl := pk_length R
      have h63 : 1 + (pk R).length ≤ maxLen := by unfold maxLen; omega
      have hby : (1 + (pk R).length) * 1 ≤ 140737488355328 := by omega
      clear HA hpl
      go_wp2_with fail
      refine BO.mono ?_
      rintro _ w6 ⟨r6, rfl, H6⟩
      obtain ⟨ra, rc, rfl⟩ := H6.row_form
      have hrd6 := H6.rd
      have H7 := H6.swap
      clear BO H6
      go_wp2_with ((at_builtin; go_must (refine wpList_append_src rfl (.tmp 47) (.tmp 49) 33 rfl 5 (.int .u8 0) 1 1 Try.underlying33 info_u8 rfl (by decide) (.slice (some ⟨wr.heap.size, 0, none⟩) 1 1) 1 [.int .u8 1] rfl H7 (.slice ra (pk R).length rc) _ _ rfl hrd6 (u8v_one _) h63 hby ?_); intro v7 w7 H8))
      go_ret
      refine ⟨_, rfl, ?_⟩
      have e1 : (clsB xs cls).length = 1 + (pk R).length := by rw [HPB2.out, List.length_cons, Nat.add_comm]
      have e2 : (clsB xs cls).map bv = [Value.int .u8 1] ++ (pk R).map u8v := by rw [HPB2.out, List.map_cons]; rfl
      rw [e1, e2]
      exact H8.swap.tail.swap.tail

end Go.Proofs.Ytbhpcpcpccmacaa
