/- Law 29: ResidualEncodes. -/
import Derived.Test.YtbhpcpcpccmacaaRes15
import Derived.Test.YtbhpcpcpccmacaaRef29a
import Derived.Test.YtbhpcpcpccmacaaRef29e
import Derived.Test.YtbhpcpcpccmacaaOpen29
namespace Go.Proofs.Ytbhpcpcpccmacaa
open Go.RowKit Go.Shelf

set_option maxRecDepth 100000 in
set_option maxHeartbeats 8000000 in
theorem law_ResidualEncodes (v : Value) (xs : List Nat) {w : World} (hv : TripRow w v xs) :
    Calls Try.prog 14 #[v] w fun e w' => e = .returned (.bool true) ∧ Below w.heap.size w w' := by
  obtain ⟨n, hl, h64, hrd0⟩ := hv
  have hrd : Reads [HP.old w.heap.size w] v n 3 (xs.map uv) := Reads.old hrd0
  obtain ⟨va, vc, rfl⟩ := hrd0.form
  clear hrd0
  have H := Sep.start w
  generalize hB : HP.old w.heap.size w = O at H hrd
  have HB := Lib.hid hB; clear hB
  have HL := Lib.hid hl
  have H64 := Lib.hid h64
  clear hl h64
  by_cases hg : 60 < n
  · have hgi : (60 : Int) < (n : Int) := by omega
    go_enter Try.func14, Try.ntmps14
    go_wp2_with fail
    refine (awake29 H).mono ?_
    rintro e w1 ⟨rfl, H1⟩
    clear H
    go_wp2_with fail
    refine (awake29 H1).mono ?_
    rintro e w2 ⟨rfl, H2⟩
    go_wp2_with fail
    go_ret
    subst HB
    exact ⟨rfl, H2.below⟩
  have hgi : ¬ (60 : Int) < (n : Int) := by omega
  have hn : n ≤ 60 := by omega
  have RC := Lib.hid fun (w' : World) (G : List HP) (h : Sep w' (G ++ [O])) => rright_calls (by omega) (hrd _ (Sep.drop_left h))
  have EC := Lib.hid fun (w' : World) (h : Sep w' [O]) => rencode_calls H64.out hrd h
  by_cases hf : Fine xs
  rotate_left
  · have HD := Lib.hid (decide_eq_false (fun h : Fine xs ∧ n ≤ 4096 => hf h.1))
    have HFE : Hid (rfitE n xs = 2) := Lib.hid (by unfold rfitE; rw [if_neg (by omega), if_neg hf])
    clear hf
    go_enter Try.func14, Try.ntmps14
    go_wp2_with fail
    refine (awake29 H).mono ?_
    rintro e w1 ⟨rfl, H1⟩
    clear H
    go_wp2_with fail
    refine (EC.out _ H1).mono ?_
    rintro _ w3 ⟨_, rfl, ⟨-, rfl, H3⟩ | ⟨hf, -, -, -⟩⟩
    rotate_left
    · rw [HFE.out] at hf; cases hf
    rw [HFE.out]
    have R := RC.out _ [] H3
    rw [HD.out] at R
    go_wp2_with fail
    refine R.mono ?_
    rintro _ _ ⟨rfl, rfl⟩
    go_wp2_with fail
    go_ret
    subst HB
    exact ⟨by simp, H3.below⟩
  have HD := Lib.hid (decide_eq_true (show Fine xs ∧ n ≤ 4096 from ⟨hf, by omega⟩))
  have HF := Lib.hid hf
  have HROW := Lib.hid (cls_row hf (by have := HL.out; omega))
  clear hf
  go_enter Try.func14, Try.ntmps14
  go_wp2_with fail
  refine (awake29 H).mono ?_
  rintro e w1 ⟨rfl, H1⟩
  clear H
  go_wp2_with fail
  refine (EC.out _ H1).mono ?_
  rintro _ w3 ⟨_, rfl, ⟨hf, -, -⟩ | ⟨-, ea, ec, rfl, H3⟩⟩
  · exact absurd (rfit_ok (by omega) HF.out) hf
  clear EC H1
  have R := RC.out _ [_] H3
  rw [HD.out] at R
  have HRS : Hid (resB xs = if (clsB xs (rcls xs)).length < (rplainB xs).length then clsB xs (rcls xs) else rplainB xs) := Lib.hid rfl
  have HRL := Lib.hid (resB_lt xs)
  generalize resB xs = B at *
  go_wp2_with fail
  refine R.mono ?_
  rintro _ _ ⟨rfl, rfl⟩
  clear R RC
  have hrd3 : Reads [HP.row 5 1 (.slice ea B.length ec) B.length (B.map bv), O] (.slice va n vc) n 3 (xs.map uv) := hrd.cons
  have H4 := (H3.row_nil 3 1).row_nil 3 1
  generalize hFF : [HP.row 5 1 (.slice ea B.length ec) B.length (B.map bv), O] = F at H4 hrd3
  have HFF := Lib.hid hFF
  clear hFF H3
  go_wp2_with fail
  go_loopg [5, 6, 39] n (fun gk u u2 i wr => ∃ (t : Nat) (ua ka : Option Addr) (uc kc : Nat), Hid (t ≤ n ∧ gk = n - t) ∧ u = .slice ua (t * 3) uc ∧ u2 = .slice ka (t * 3) kc ∧ i = .int .i64 (t : Int) ∧ Sep wr (HP.row 3 1 (.slice ua (t * 3) uc) (t * 3) (((xs.take (t * 3)).map Lib.bitLen).map dv) :: HP.row 3 1 (.slice ka (t * 3) kc) (t * 3) ((cxs (t * 3)).map dv) :: F))
  case atStart => exact ⟨0, none, none, 0, 0, Lib.hid ⟨by omega, rfl⟩, rfl, rfl, rfl, by rw [Nat.zero_mul, List.take_zero]; exact H4⟩
  case round =>
    clear H4
    obtain ⟨t, ua, ka, uc, kc, hq, rfl, rfl, rfl, Hr⟩ := hrel
    obtain ⟨q1, q2⟩ := hq.out
    clear hq
    by_cases ht : t < n
    · obtain ⟨g, o, cap, he⟩ := (hrd3 _ Hr.tail.tail).open (by omega)
      simp only [Value.slice.injEq, true_and] at he
      obtain ⟨rfl, rfl⟩ := he
      obtain ⟨a, b, c, h0, h1, h2, h3, ma, mb, mc⟩ := three_at HL.out ht
      have k0 := (hrd3 _ Hr.tail.tail).three (j := 0) h0
      have k1 := (hrd3 _ Hr.tail.tail).three (j := 1) h1
      have k2 := (hrd3 _ Hr.tail.tail).three (j := 2) h2
      rw [Nat.add_zero] at k0
      have hti : (t : Int) < (n : Int) := by omega
      have HB3 : Hid (xs.take ((t + 1) * 3) = xs.take (t * 3) ++ [a, b, c]) := Lib.hid (by rw [h3, List.append_assoc, List.append_assoc]; rfl)
      have hfa := HF.out a ma
      have hfb := HF.out b mb
      have hfc := HF.out c mc
      clear h0 h1 h2 h3 ma mb mc
      have H2 := Hr.alloc #[.int .u64 (a : Int), .int .u64 (b : Int), .int .u64 (c : Int)] 29
      go_wp2_with fail
      clear k0 k1 k2
      generalize wr.alloc _ = w2 at *
      generalize wr.heap.size = q0 at *
      generalize xs.take (t * 3) = L0 at *
      go_loopg [5, 6, 43] 3 (fun gk u u2 i wr => ∃ (k : Nat) (ua ka : Option Addr) (uc kc : Nat), Hid (k ≤ 3 ∧ gk = 3 - k) ∧ u = .slice ua (t * 3 + k) uc ∧ u2 = .slice ka (t * 3 + k) kc ∧ i = .int .i64 (k : Int) ∧ Sep wr (HP.row 3 1 (.slice ua (t * 3 + k) uc) (t * 3 + k) (((L0 ++ [a, b, c].take k).map Lib.bitLen).map dv) :: HP.row 3 1 (.slice ka (t * 3 + k) kc) (t * 3 + k) ((cxs (t * 3 + k)).map dv) :: HP.pt q0 #[.int .u64 (a : Int), .int .u64 (b : Int), .int .u64 (c : Int)] 29 :: F))
      case atStart => exact ⟨0, ua, ka, uc, kc, Lib.hid ⟨by omega, rfl⟩, rfl, rfl, rfl, by rw [List.take_zero, List.append_nil]; exact H2.mid2⟩
      case round =>
        clear H2 Hr
        obtain ⟨k, ua, ka, uc, kc, hq, rfl, rfl, rfl, Hr⟩ := hrel
        obtain ⟨q3, q4⟩ := hq.out
        clear hq
        by_cases hk : k < 3
        · obtain ⟨x, hx, hor⟩ := three_get a b c hk
          have kx : wr.cell? ⟨q0, k, none⟩ = some (.int .u64 (x : Int)) := arr_cell (l := [.int .u64 (a : Int), .int .u64 (b : Int), .int .u64 (c : Int)]) Hr.tail.tail (by
            have : ([a, b, c].map uv)[k]? = some (.int .u64 (x : Int)) := uv_at hx
            exact this)
          have hx4 : x ≤ 4194304 := by omega
          have HNX := Lib.hid (three_next hx L0)
          have hki : (k : Int) < 3 := by omega
          have hk0 : ¬ (k : Int) < 0 := by omega
          have LC := rclass_calls (u := x) (w := wr) (by omega)
          have HA := Hr.alloc #[.int .i64 (Lib.bitLen x : Int)] 3
          have hrn := rd_new HA
          have HB2 := HA.swap
          have h63 : (t * 3 + k) + 1 ≤ maxLen := by unfold maxLen; omega
          have hby : ((t * 3 + k) + 1) * 8 ≤ 140737488355328 := by omega
          have HM : Hid (((L0 ++ [a, b, c].take k).map Lib.bitLen).map dv ++ [.int .i64 (Lib.bitLen x : Int)] = ((L0 ++ [a, b, c].take (k + 1)).map Lib.bitLen).map dv) := Lib.hid (by rw [HNX.out, List.map_append (l₁ := L0 ++ [a, b, c].take k), List.map_append (f := dv)]; rfl)
          have HM2 : Hid ((cxs (t * 3 + k)).map dv ++ [.int .i64 (k : Int)] = (cxs (t * 3 + k + 1)).map dv) := Lib.hid (by rw [cxs_succ, List.map_append, show (t * 3 + k) % 3 = k by omega]; rfl)
          have hbl := bitLen_fine hx4
          clear HA hx hor
          generalize Lib.bitLen x = bl at *
          go_wp2_with fail
          refine LC.mono ?_
          rintro _ _ ⟨rfl, rfl⟩
          clear LC
          go_wp2_with ((at_builtin; first | (refine wpList_append_src rfl (.tmp 46) (.tmp 51) 40 rfl 3 (.int .i64 0) 1 8 Try.underlying40 info_iv rfl (by decide) (.slice ua (t * 3 + k) uc) (t * 3 + k) _ rfl HB2 (.slice (some ⟨wr.heap.size, 0, none⟩) 1 1) 1 [.int .i64 (bl : Int)] rfl hrn (by intro u hu; simp at hu; subst hu; rfl) h63 hby ?_; intro v7 w7 H7; obtain ⟨va7, vc7, hv7⟩ := H7.row_form; subst hv7; rw [HM.out] at H7; have H8 := H7.swap.tail.swap; have HA := H8.alloc #[.int .i64 (k : Int)] 3; have hrn2 := rd_new HA; have HB3 := HA.swap) | (refine wpList_append_src rfl (.tmp 53) (.tmp 55) 40 rfl 3 (.int .i64 0) 1 8 Try.underlying40 info_iv rfl (by decide) (.slice ka (t * 3 + k) kc) (t * 3 + k) _ rfl HB3 (.slice (some ⟨w7.heap.size, 0, none⟩) 1 1) 1 [.int .i64 (k : Int)] rfl hrn2 (by intro u hu; simp at hu; subst hu; rfl) h63 hby ?_; intro v9 w9 H9; obtain ⟨va9, vc9, hv9⟩ := H9.row_form; subst hv9)))
          rw [HM2.out] at H9
          have H10 := H9.swap.tail.swap
          clear H9
          go_roundg (3 - (k + 1))
          case rel => exact ⟨k + 1, va7, va9, vc7, vc9, Lib.hid ⟨by omega, rfl⟩, rfl, rfl, by go_num, H10⟩
          case measure => omega
        · obtain rfl : k = 3 := by omega
          have hki : ¬ (3 : Int) < 3 := by omega
          have HL1 : Hid (L0 ++ [a, b, c].take 3 = xs.take ((t + 1) * 3)) := Lib.hid HB3.out.symm
          rw [HL1.out] at Hr
          have HM3 : Hid (t * 3 + 3 = (t + 1) * 3) := Lib.hid (by omega)
          rw [HM3.out] at Hr ⊢
          go_wp2_with fail
          go_roundg (n - (t + 1))
          case rel => exact ⟨t + 1, ua, ka, uc, kc, Lib.hid ⟨by omega, rfl⟩, rfl, rfl, by go_num, Hr.rot3.tail⟩
          case measure => omega
    · obtain rfl : t = n := by omega
      have hti : ¬ (t : Int) < (t : Int) := by omega
      rw [List.take_of_length_le (by rw [HL.out]; exact Nat.le_refl _)] at Hr
      have hcl1 : ((xs.map Lib.bitLen)).length = t * 3 := by rw [List.length_map]; exact HL.out
      have hcl2 : (cxs xs.length).length = t * 3 := by rw [cxs_length]; exact HL.out
      have hcl3 : cxs xs.length = cxs (t * 3) := by rw [HL.out]
      have ENC : Calls Try.prog 26 #[.int .i64 24, .int .i64 3, .slice ua (t * 3) uc, .slice ka (t * 3) kc] wr (Gives fun r w2 => ∃ a c, r = .tuple #[.slice a (rcls xs).length c, .int .i64 0] ∧ Sep w2 (HP.row 5 1 (.slice a (rcls xs).length c) (rcls xs).length ((rcls xs).map bv) :: HP.row 3 1 (.slice ua (t * 3) uc) (t * 3) ((xs.map Lib.bitLen).map dv) :: HP.row 3 1 (.slice ka (t * 3) kc) (t * 3) ((cxs (t * 3)).map dv) :: F)) := nencode_calls (v := .slice ua (t * 3) uc) (u := .slice ka (t * 3) kc) HROW.out (by rw [hcl1]; exact Reads.row) (by rw [hcl2, hcl3]; exact Reads.cons Reads.row) Hr
      have hm1 := rcls_le xs
      have hm1 : (rcls xs).length ≤ 8000 := by have := HL.out; omega
      have HM3 := Lib.hid (rcls_lt xs)
      generalize rcls xs = cls at *
      clear hcl1 hcl2 hcl3
      go_wp2_with fail
      refine ENC.mono ?_
      rintro _ w5 ⟨_, rfl, ka2, kc2, rfl, H5⟩
      clear ENC Hr
      have PC := rplain29_calls (v := .slice va t vc) HF.out (by omega) (Reads.append hrd3 [_, _, _]) H5
      go_wp2_with fail
      refine PC.mono ?_
      rintro _ w6 ⟨r6, rfl, H6⟩
      obtain ⟨pa, pc, rfl⟩ := H6.row_form
      clear PC H5
      have CC := rclassed29_calls (v := .slice va t vc) (u := .slice ka2 cls.length kc2) (cls := cls) HF.out (by omega) hm1 HM3.out (Reads.append hrd3 [_, _, _, _]) (by exact Reads.cons Reads.row) H6
      go_wp2_with fail
      refine CC.mono ?_
      rintro _ w7 ⟨r7, rfl, H7⟩
      obtain ⟨ca7, cc7, rfl⟩ := H7.row_form
      clear CC H6
      have hb := baD_toList_beq HRL.out HRL.out
      rw [decide_eq_true rfl] at hb
      have hFF := HFF.out
      subst hFF
      have c1 := conv_bytes H7.rd
      have c2 := conv_bytes H7.tail.rd
      have c3 := conv_bytes H7.tail.tail.tail.tail.tail.rd
      by_cases hlt : (clsB xs cls).length < (rplainB xs).length
      · have hBe : B = clsB xs cls := by have := HRS.out; rw [if_pos hlt] at this; exact this
        rw [← hBe] at H7 c1 hlt
        have HBE := Lib.hid hBe
        clear hBe
        generalize rplainB xs = pd at *
        have hlti : (B.length : Int) < (pd.length : Int) := by omega
        rw [HBE.out.symm]
        go_wp2_with fail
        go_ret
        subst HB
        exact ⟨by simp, H7.tail.tail.tail.tail.tail.tail.below⟩
      · have hBe : B = rplainB xs := by have := HRS.out; rw [if_neg hlt] at this; exact this
        rw [← hBe] at H7 c2 hlt
        have HBE := Lib.hid hBe
        clear hBe
        generalize clsB xs cls = cd at *
        have hlti : ¬ (cd.length : Int) < (B.length : Int) := by omega
        rw [HBE.out.symm]
        go_wp2_with fail
        go_ret
        subst HB
        exact ⟨by simp, H7.tail.tail.tail.tail.tail.tail.below⟩

end Go.Proofs.Ytbhpcpcpccmacaa
