/- residual: classed. -/
import Derived.Test.YtbhpcpcpccmacaaRes8
import Derived.Test.YtbhpcpcpccmacaaLaw5
namespace Go.Proofs.Ytbhpcpcpccmacaa
open Go.RowKit Go.Shelf

theorem cls_row {xs : List Nat} (hf : Fine xs) (hl : xs.length ≤ 12288) : Row5 24 3 (xs.map Lib.bitLen) (cxs xs.length) :=
  ⟨by decide, by decide, by decide, by decide, by rw [cxs_length, List.length_map], by rw [List.length_map]; omega, fun s hs => by
    obtain ⟨x, hx, rfl⟩ := List.mem_map.1 hs
    have := bitLen_fine (hf x hx)
    omega, fun c hc => cxs_lt c hc⟩

set_option maxRecDepth 100000 in
set_option maxHeartbeats 8000000 in
theorem classed_calls {v : Value} {n : Nat} {xs : List Nat} {F : List HP} {w : World} (hf : Fine xs) (hn : n ≤ 4096) (hrd : Reads F v n 3 (xs.map uv)) (H : Sep w F) :
    Calls Try.prog 45 #[v] w (Gives fun r w' => ∃ a c, r = .slice a (rclsB xs).length c ∧ a ≠ none ∧ Sep w' (HP.row 5 1 r (rclsB xs).length ((rclsB xs).map bv) :: F)) := by
  obtain ⟨va, vc, rfl⟩ := (hrd w H).form
  have hl : xs.length = n * 3 := by have := (hrd w H).1; rw [List.length_map] at this; exact this
  have HL := Lib.hid hl
  have HF := Lib.hid hf
  have HROW := Lib.hid (cls_row hf (by omega))
  clear hl hf
  have H1 := H.row_nil 3 1
  go_enter Try.func45, Try.ntmps45
  go_wp2_with fail
  go_loopg [3, 18] n (fun gk u i wr => ∃ (t : Nat) (ua : Option Addr) (uc : Nat), Hid (t ≤ n ∧ gk = n - t) ∧ u = .slice ua (t * 3) uc ∧ i = .int .i64 (t : Int) ∧ Sep wr (HP.row 3 1 (.slice ua (t * 3) uc) (t * 3) (((xs.take (t * 3)).map Lib.bitLen).map dv) :: F))
  case atStart => exact ⟨0, none, 0, Lib.hid ⟨by omega, rfl⟩, rfl, rfl, by rw [Nat.zero_mul, List.take_zero]; exact H1⟩
  case round =>
    clear H H1
    obtain ⟨t, ua, uc, hq, rfl, rfl, Hr⟩ := hrel
    obtain ⟨q1, q2⟩ := hq.out
    clear hq
    by_cases ht : t < n
    · obtain ⟨g, o, cap, he⟩ := (hrd _ Hr.tail).open (by omega)
      simp only [Value.slice.injEq, true_and] at he
      obtain ⟨rfl, rfl⟩ := he
      obtain ⟨a, b, c, h0, h1, h2, h3, ma, mb, mc⟩ := three_at HL.out ht
      have k0 := (hrd _ Hr.tail).three (j := 0) h0
      have k1 := (hrd _ Hr.tail).three (j := 1) h1
      have k2 := (hrd _ Hr.tail).three (j := 2) h2
      rw [Nat.add_zero] at k0
      have hti : (t : Int) < (n : Int) := by omega
      have HB3 : Hid (xs.take ((t + 1) * 3) = xs.take (t * 3) ++ [a, b, c]) := Lib.hid (by rw [h3, List.append_assoc, List.append_assoc]; rfl)
      have hfa := HF.out a ma
      have hfb := HF.out b mb
      have hfc := HF.out c mc
      clear h0 h1 h2 h3 ma mb mc
      have H2 := Hr.alloc #[.int .u64 (a : Int), .int .u64 (b : Int), .int .u64 (c : Int)] 29
      go_wp2_with fail
      clear k0 k1 k2
      generalize wr.alloc _ = w2 at *
      generalize wr.heap.size = q0 at *
      have hL0 : (xs.take (t * 3)).length = t * 3 := by rw [List.length_take, HL.out]; omega
      have HL0 := Lib.hid hL0
      generalize xs.take (t * 3) = L0 at *
      clear hL0
      go_loopg [3, 23] 3 (fun gk u i wr => ∃ (k : Nat) (ua : Option Addr) (uc : Nat), Hid (k ≤ 3 ∧ gk = 3 - k) ∧ u = .slice ua (t * 3 + k) uc ∧ i = .int .i64 (k : Int) ∧ Sep wr (HP.row 3 1 (.slice ua (t * 3 + k) uc) (t * 3 + k) (((L0 ++ [a, b, c].take k).map Lib.bitLen).map dv) :: F))
      case atStart => exact ⟨0, ua, uc, Lib.hid ⟨by omega, rfl⟩, rfl, rfl, by rw [List.take_zero, List.append_nil]; exact H2.tail⟩
      case round =>
        clear H2 Hr
        obtain ⟨k, ua, uc, hq, rfl, rfl, Hr⟩ := hrel
        obtain ⟨q3, q4⟩ := hq.out
        clear hq
        by_cases hk : k < 3
        · obtain ⟨x, hx, hor⟩ := three_get a b c hk
          have ik := idx_three hx
          have hx4 : x ≤ 4194304 := by omega
          have HNX := Lib.hid (three_next hx L0)
          have hki : (k : Int) < 3 := by omega
          have LC := bits_Len64 (x : Int) wr (by omega) (by omega)
          rw [Int.toNat_natCast] at LC
          have HA := Hr.alloc #[.int .i64 (Lib.bitLen x : Int)] 3
          have hrn := rd_new HA
          have HB2 := HA.swap
          have h63 : (t * 3 + k) + 1 ≤ maxLen := by unfold maxLen; omega
          have hby : ((t * 3 + k) + 1) * 8 ≤ 140737488355328 := by omega
          have hmm : ((L0 ++ [a, b, c].take k).map Lib.bitLen).map dv ++ [.int .i64 (Lib.bitLen x : Int)] = ((L0 ++ [a, b, c].take (k + 1)).map Lib.bitLen).map dv := by rw [HNX.out, List.map_append (l₁ := L0 ++ [a, b, c].take k), List.map_append (f := dv)]; rfl
          have HM := Lib.hid hmm
          have hbl := bitLen_fine hx4
          clear hmm HA hx hor
          generalize Lib.bitLen x = bl at *
          go_wp2_with fail
          refine LC.mono ?_
          rintro _ _ ⟨rfl, rfl⟩
          clear LC
          go_wp2_with ((at_builtin; go_must (refine wpList_append_src rfl (.tmp 26) (.tmp 29) 40 rfl 3 (.int .i64 0) 1 8 Try.underlying40 info_iv rfl (by decide) (.slice ua (t * 3 + k) uc) (t * 3 + k) _ rfl HB2 (.slice (some ⟨_, 0, none⟩) 1 1) 1 [.int .i64 (bl : Int)] rfl hrn (by intro u hu; simp at hu; subst hu; rfl) h63 hby ?_); intro v7 w7 H7; obtain ⟨va, vc, hv7⟩ := H7.row_form; subst hv7))
          rw [HM.out] at H7
          have H8 := H7.swap.tail
          clear H7 Hr HB2 hrn
          go_roundg (3 - (k + 1))
          case rel => exact ⟨k + 1, va, vc, Lib.hid ⟨by omega, rfl⟩, rfl, by go_num, H8⟩
          case measure => omega
        · obtain rfl : k = 3 := by omega
          have hki : ¬ (3 : Int) < 3 := by omega
          have HL1 : Hid (L0 ++ [a, b, c].take 3 = xs.take ((t + 1) * 3)) := Lib.hid HB3.out.symm
          rw [HL1.out] at Hr
          have hm3 : t * 3 + 3 = (t + 1) * 3 := by omega
          have HM3 := Lib.hid hm3
          clear hm3
          rw [HM3.out] at Hr ⊢
          go_wp2_with fail
          go_roundg (n - (t + 1))
          case rel => exact ⟨t + 1, ua, uc, Lib.hid ⟨by omega, rfl⟩, rfl, by go_num, Hr⟩
          case measure => omega
    · obtain rfl : t = n := by omega
      have hti : ¬ (t : Int) < (t : Int) := by omega
      rw [List.take_of_length_le (by rw [HL.out]; exact Nat.le_refl _)] at Hr
      have CC := contexts_calls hn Hr
      have hcl1 : ((xs.map Lib.bitLen)).length = t * 3 := by rw [List.length_map]; exact HL.out
      have hcl2 : (cxs xs.length).length = 3 * t := by rw [cxs_length, HL.out, Nat.mul_comm]
      have hcl3 : cxs xs.length = cxs (3 * t) := by rw [HL.out, Nat.mul_comm]
      have ENC : Hid (∀ (w' : World) (ca : Option Addr) (cc : Nat), Sep w' (HP.row 3 1 (.slice ca (3 * t) cc) (3 * t) ((cxs (3 * t)).map dv) :: HP.row 3 1 (.slice ua (t * 3) uc) (t * 3) ((xs.map Lib.bitLen).map dv) :: F) → Calls Try.prog 26 #[.int .i64 24, .int .i64 3, .slice ua (t * 3) uc, .slice ca (3 * t) cc] w' (Gives fun r w2 => ∃ a c, r = .tuple #[.slice a (rcls xs).length c, .int .i64 0] ∧ Sep w2 (HP.row 5 1 (.slice a (rcls xs).length c) (rcls xs).length ((rcls xs).map bv) :: HP.row 3 1 (.slice ca (3 * t) cc) (3 * t) ((cxs (3 * t)).map dv) :: HP.row 3 1 (.slice ua (t * 3) uc) (t * 3) ((xs.map Lib.bitLen).map dv) :: F))) := Lib.hid fun w' ca cc h => nencode_calls (v := .slice ua (t * 3) uc) (u := .slice ca (3 * t) cc) HROW.out (by rw [hcl1]; exact Reads.cons Reads.row) (by rw [hcl2, hcl3]; exact Reads.row) h
      have hm1 := rcls_le xs
      have hm2 := rcls_pos xs
      have hm3 := rcls_lt xs
      have HRB : Hid (rclsB xs = 1 :: pk (longN (rcls xs).length ++ allBits (rcls xs) ++ rowR xs)) := Lib.hid rfl
      have HRR : Hid (∀ i, (rowR (xs.take i)).length ≤ 300000) := Lib.hid fun i => by
        have h1 := rowR_le (HF.out.take i)
        have h2 : (xs.take i).length ≤ xs.length := by rw [List.length_take]; omega
        have := HL.out
        omega
      have hm1 : (rcls xs).length ≤ 8000 := by have := HL.out; omega
      generalize rcls xs = cls at *
      have HM3 := Lib.hid hm3
      clear hcl1 hcl2 hcl3 hm3
      go_wp2_with fail
      refine CC.mono ?_
      rintro _ w4 ⟨_, rfl, H4⟩
      obtain ⟨ca, cc, rfl⟩ := H4.row_form
      clear CC Hr
      go_wp2_with fail
      refine (ENC.out _ _ _ H4).mono ?_
      rintro _ w5 ⟨_, rfl, ea, ec, rfl, H5⟩
      obtain ⟨g5, cp5, _, he, -⟩ := H5.row_open (by omega)
      simp only [Value.slice.injEq, true_and] at he
      obtain ⟨rfl, rfl⟩ := he
      clear ENC H4
      have H6 := Wr.new H5
      clear H5
      go_wp2_with fail
      generalize w5.heap.size = q at *
      generalize w5.alloc _ = w6 at *
      have hsz : sizeN cls.length ≤ 65 := by
        have := halfN_le (n := cls.length) (by omega)
        unfold sizeN
        omega
      have PC := nput_ok (n := cls.length) (by omega) (by rw [List.length_nil]; omega) H6
      rw [List.nil_append] at PC
      have hll := longN_length cls.length
      have HLL : Hid ((longN cls.length).length ≤ 65) := Lib.hid (by omega)
      clear hsz hll
      refine PC.mono ?_
      rintro _ w7 ⟨rfl, H7⟩
      clear PC H6
      generalize longN cls.length = L1 at *
      have HAB : Hid (∀ i, (allBits (cls.take i)).length ≤ 64000) := Lib.hid fun i => by rw [allBits_length, List.length_take]; omega
      go_wp2_with fail
      go_loopg [52] cls.length (fun gk i wr => ∃ k : Nat, Hid (k ≤ cls.length ∧ gk = cls.length - k) ∧ i = .int .i64 (k : Int) ∧ Sep wr (Wr q (L1 ++ allBits (cls.take k)) :: HP.row 5 1 (.slice (some ⟨g5, 0, none⟩) cls.length ec) cls.length (cls.map bv) :: HP.row 3 1 (.slice ca (3 * t) cc) (3 * t) ((cxs (3 * t)).map dv) :: HP.row 3 1 (.slice ua (t * 3) uc) (t * 3) ((xs.map Lib.bitLen).map dv) :: F))
      case atStart => exact ⟨0, Lib.hid ⟨by omega, rfl⟩, rfl, by rw [List.take_zero, allBits_nil, List.append_nil]; exact H7⟩
      case round =>
        clear H7
        obtain ⟨k, hq, rfl, Hr⟩ := hrel
        obtain ⟨q3, q4⟩ := hq.out
        clear hq
        by_cases hk : k < cls.length
        · have kb := Hr.tail.row_cell k (bv_get (List.getElem?_eq_getElem hk))
          have hd := HM3.out _ (List.getElem_mem hk)
          have HT := Lib.hid (allBits_take_succ cls k hk)
          have hab := HAB.out k
          have hll := HLL.out
          generalize cls[k] = d at *
          have hki : (k : Int) < (cls.length : Int) := by omega
          have PC := put_eq (v := (d : Int)) (n := 8) (V := d) (k := 8) rfl rfl (by omega) (by omega) (by rw [List.length_append]; omega) Hr
          rw [List.append_assoc, ← HT.out] at PC
          clear hab hll
          go_wp2_with fail
          refine PC.mono ?_
          rintro _ w8 ⟨rfl, H8⟩
          clear PC Hr kb
          go_wp2_with fail
          go_roundg (cls.length - (k + 1))
          case rel => exact ⟨k + 1, Lib.hid ⟨by omega, rfl⟩, by go_num, H8⟩
          case measure => omega
        · obtain rfl : k = cls.length := by omega
          have hki : ¬ (cls.length : Int) < (cls.length : Int) := by omega
          rw [List.take_length] at Hr
          have hab := HAB.out cls.length
          rw [List.take_length] at hab
          have hL2 : (L1 ++ allBits cls).length ≤ 70000 := by have := HLL.out; rw [List.length_append]; omega
          have HL2 := Lib.hid hL2
          clear hab hL2 HAB HLL
          generalize L1 ++ allBits cls = L2 at *
          go_wp2_with fail
          go_loopg [63] (t * 3) (fun gk i wr => ∃ k : Nat, Hid (k ≤ t * 3 ∧ gk = t * 3 - k) ∧ i = .int .i64 (k : Int) ∧ Sep wr (Wr q (L2 ++ rowR (xs.take k)) :: HP.row 5 1 (.slice (some ⟨g5, 0, none⟩) cls.length ec) cls.length (cls.map bv) :: HP.row 3 1 (.slice ca (3 * t) cc) (3 * t) ((cxs (3 * t)).map dv) :: HP.row 3 1 (.slice ua (t * 3) uc) (t * 3) ((xs.map Lib.bitLen).map dv) :: F))
          case atStart => exact ⟨0, Lib.hid ⟨by omega, rfl⟩, rfl, by rw [List.take_zero]; show Sep _ (Wr q (L2 ++ []) :: _); rw [List.append_nil]; exact Hr⟩
          case round =>
            clear Hr
            obtain ⟨k, hq, rfl, Hr⟩ := hrel
            obtain ⟨q5, q6⟩ := hq.out
            clear hq
            by_cases hk : k < t * 3
            · have hkx : k < xs.length := by rw [HL.out]; exact hk
              have hrc := Hr.tail.tail.tail.rd
              obtain ⟨g6, o6, cp6, he⟩ := hrc.open (by omega)
              simp only [Value.slice.injEq, true_and] at he
              obtain ⟨rfl, rfl⟩ := he
              have kb := hrc.cell k (dv_at (l := xs.map Lib.bitLen) (by rw [List.getElem?_map, List.getElem?_eq_getElem hkx]; rfl))
              have hx4 := HF.out _ (List.getElem_mem hkx)
              obtain ⟨a, ha⟩ : ∃ a, a = k / 3 := ⟨_, rfl⟩
              obtain ⟨b, hb⟩ : ∃ b, b = k % 3 := ⟨_, rfl⟩
              have hrl := hrd _ (Sep.drop_left (S := [_, _, _, _]) Hr)
              obtain ⟨g7, o7, cp7, he⟩ := hrl.open (by omega)
              simp only [Value.slice.injEq, true_and] at he
              obtain ⟨rfl, rfl⟩ := he
              have kx := hrl.three (t := a) (j := b) (x := xs[k]) (by rw [show a * 3 + b = k by omega]; exact List.getElem?_eq_getElem hkx)
              have HT : Hid (rowR (xs.take (k + 1)) = rowR (xs.take k) ++ restB xs[k]) := Lib.hid (by rw [List.take_succ_eq_append_getElem hkx, rowR_snoc])
              have hrr := HRR.out k
              have hl2 := HL2.out
              generalize xs[k] = x at *
              have hki : (k : Int) < ((t * 3 : Nat) : Int) := by omega
              have hki2 : (k : Int) < (t : Int) * 3 := by omega
              by_cases hb1 : Lib.bitLen x ≤ 1
              · have hbi : ¬ (1 : Int) < (Lib.bitLen x : Int) := by omega
                have HS : Hid (rowR (xs.take (k + 1)) = rowR (xs.take k)) := Lib.hid (by rw [HT.out, restB_short hb1, List.append_nil])
                clear hrc hrl kx ha hb
                generalize Lib.bitLen x = bl at *
                go_wp2_with fail
                go_roundg (t * 3 - (k + 1))
                case rel => exact ⟨k + 1, Lib.hid ⟨by omega, rfl⟩, by go_num, by rw [HS.out]; exact Hr⟩
                case measure => omega
              · have hbi : (1 : Int) < (Lib.bitLen x : Int) := by omega
                obtain ⟨r1, r2, r3⟩ := restB_sub hx4 (by omega)
                have hbl := bitLen_fine hx4
                have hq1 : (k : Int).tdiv 3 = (a : Int) := by rw [Int.tdiv_eq_ediv_of_nonneg (by omega)]; omega
                have hq2 : (k : Int) / 3 = (a : Int) := by omega
                have hq3 : (k : Int).tmod 3 = (b : Int) := by rw [Int.tmod_eq_emod_of_nonneg (by omega)]; omega
                have hq4 : (k : Int) % 3 = (b : Int) := by omega
                have ha3 : (a : Int) < (t : Int) := by omega
                have hb3 : (b : Int) < 3 := by omega
                have HRE := Lib.hid r3
                have hrl3 := restB_length x
                clear hrc hrl ha hb r3
                obtain ⟨e, he⟩ : ∃ e, Lib.bitLen x = e + 1 := ⟨Lib.bitLen x - 1, by omega⟩
                have HE := Lib.hid he
                rw [he] at hbi r1 r2 hbl kb hrl3
                simp only [Nat.add_sub_cancel] at r1 r2 hrl3
                clear he hb1
                have hp : ((2 : Int) ^ e) = ((2 ^ e : Nat) : Int) := by simp
                have hw : IntKind.u64.wrap ((x : Int) - IntKind.u64.wrap (2 ^ e)) = ((x - 2 ^ e : Nat) : Int) := by
                  rw [hp]
                  generalize 2 ^ e = P at *
                  have h1 : IntKind.u64.wrap (P : Int) = (P : Int) := by
                    simp only [IntKind.wrap, IntKind.signed, IntKind.bits]
                    first | omega | (simp; omega)
                  rw [h1]
                  simp only [IntKind.wrap, IntKind.signed, IntKind.bits]
                  first | omega | (simp; omega)
                have PC := put_eq (v := IntKind.u64.wrap ((x : Int) - IntKind.u64.wrap (2 ^ e))) (n := (e : Int)) (V := x - 2 ^ e) (k := e) hw rfl (by omega) r1 (by rw [List.length_append]; omega) Hr
                have hre := HRE.out
                rw [HE.out, Nat.add_sub_cancel] at hre
                rw [hre, List.append_assoc, ← HT.out] at PC
                clear hp hw hre r1 r2 hrl3
                go_wp2_with fail
                refine PC.mono ?_
                rintro _ w8 ⟨rfl, H8⟩
                clear PC Hr kb kx
                go_wp2_with fail
                go_roundg (t * 3 - (k + 1))
                case rel => exact ⟨k + 1, Lib.hid ⟨by omega, rfl⟩, by go_num, H8⟩
                case measure => omega
            · obtain rfl : k = t * 3 := by omega
              have hki : ¬ ((t * 3 : Nat) : Int) < ((t * 3 : Nat) : Int) := by omega
              have hki2 : ¬ (t : Int) * 3 < (t : Int) * 3 := by omega
              rw [List.take_of_length_le (by rw [HL.out]; exact Nat.le_refl _)] at Hr
              have hrr := HRR.out xs.length
              rw [List.take_length] at hrr
              have hlen : (L2 ++ rowR xs).length ≤ 400000 := by have := HL2.out; rw [List.length_append]; omega
              clear hrr HRR
              generalize L2 ++ rowR xs = L at *
              have HA := Hr.alloc #[.int .u8 1] 5
              have HN : Sep _ (HP.row 5 1 (.slice (some ⟨wr.heap.size, 0, none⟩) 1 1) 1 [.int .u8 1] :: _) := Sep.row_shut HA (Nat.le_refl _) (by unfold maxLen; omega) rfl rfl
              have BO := bytes_ok (b := q) (l := L) (by omega) HN.swap
              have hpl := pk_length L
              have h63 : 1 + (pk L).length ≤ maxLen := by unfold maxLen; omega
              have hby : (1 + (pk L).length) * 1 ≤ 140737488355328 := by omega
              clear hpl hlen
              clear HA
              go_wp2_with fail
              refine BO.mono ?_
              rintro _ w6 ⟨r6, rfl, H6⟩
              obtain ⟨ra, rc, rfl⟩ := H6.row_form
              have hrd6 := H6.rd
              have H7 := H6.rot3
              clear BO H6
              go_wp2_with ((at_builtin; go_must (refine wpList_append_src rfl (.tmp 89) (.tmp 91) 33 rfl 5 (.int .u8 0) 1 1 Try.underlying33 info_u8 rfl (by decide) (.slice (some ⟨wr.heap.size, 0, none⟩) 1 1) 1 [.int .u8 1] rfl H7 (.slice ra (pk L).length rc) _ _ rfl hrd6 (u8v_one _) h63 hby ?_); intro v7 w7 H8))
              obtain ⟨g8, cp8, _, hv8, -⟩ := H8.row_open (by omega)
              subst hv8
              go_ret
              have e1 : (rclsB xs).length = 1 + (pk L).length := by rw [HRB.out, List.length_cons, Nat.add_comm]
              have e2 : (rclsB xs).map bv = [Value.int .u8 1] ++ (pk L).map u8v := by rw [HRB.out, List.map_cons]; rfl
              refine ⟨_, rfl, some ⟨g8, 0, none⟩, cp8, by rw [e1]; rfl, by simp, ?_⟩
              rw [e1, e2]
              exact H8.swap.tail.swap.tail.swap.tail.swap.tail.swap.tail

end Go.Proofs.Ytbhpcpcpccmacaa
