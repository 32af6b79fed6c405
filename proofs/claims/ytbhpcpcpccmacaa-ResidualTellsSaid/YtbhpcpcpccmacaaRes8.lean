/- residual: plain, contexts. -/
import Derived.Test.YtbhpcpcpccmacaaRes7
namespace Go.Proofs.Ytbhpcpcpccmacaa
open Go.RowKit Go.Shelf

theorem Fine.take {xs : List Nat} (h : Fine xs) (k : Nat) : Fine (xs.take k) := fun x hx => h x (List.mem_of_mem_take hx)
theorem rowG_take {xs : List Nat} (h : Fine xs) {n : Nat} (hl : xs.length = n * 3) (hn : n ≤ 4096) (k : Nat) : (rowG (xs.take k)).length ≤ 600000 := by
  have h1 := rowG_le (h.take k)
  have h2 : (xs.take k).length ≤ xs.length := by rw [List.length_take]; omega
  omega

set_option maxRecDepth 100000 in
set_option maxHeartbeats 8000000 in
theorem rsplain_calls {v : Value} {n : Nat} {xs : List Nat} {F : List HP} {w : World} (hf : Fine xs) (hn : n ≤ 4096) (hrd : Reads F v n 3 (xs.map uv)) (H : Sep w F) :
    Calls Try.prog 44 #[v] w (Gives fun r w' => Sep w' (HP.row 5 1 r (rplainB xs).length ((rplainB xs).map bv) :: F)) := by
  obtain ⟨va, vc, rfl⟩ := (hrd w H).form
  have hl : xs.length = n * 3 := by have := (hrd w H).1; rw [List.length_map] at this; exact this
  have HL := Lib.hid hl
  have HF := Lib.hid hf
  have HGT := Lib.hid fun k => rowG_take hf hl hn k
  clear hl hf
  have H1 := Wr.new H
  go_enter Try.func44, Try.ntmps44
  go_wp2_with fail
  generalize w.heap.size = q at *
  go_loopg [12] n (fun gk i wr => ∃ t : Nat, Hid (t ≤ n ∧ gk = n - t) ∧ i = .int .i64 (t : Int) ∧ Sep wr (Wr q (rowG (xs.take (t * 3))) :: F))
  case atStart => exact ⟨0, Lib.hid ⟨by omega, rfl⟩, rfl, H1⟩
  case round =>
    clear H H1
    obtain ⟨t, hq, rfl, Hr⟩ := hrel
    obtain ⟨q1, q2⟩ := hq.out
    clear hq
    by_cases ht : t < n
    · obtain ⟨g, o, cap, he⟩ := (hrd _ Hr.tail).open (by omega)
      simp only [Value.slice.injEq, true_and] at he
      obtain ⟨rfl, rfl⟩ := he
      obtain ⟨a, b, c, h0, h1, h2, h3, ma, mb, mc⟩ := three_at HL.out ht
      have k0 := (hrd _ Hr.tail).three (j := 0) h0
      have k1 := (hrd _ Hr.tail).three (j := 1) h1
      have k2 := (hrd _ Hr.tail).three (j := 2) h2
      rw [Nat.add_zero] at k0
      have hti : (t : Int) < (n : Int) := by omega
      have HB3 : Hid (xs.take ((t + 1) * 3) = xs.take (t * 3) ++ [a, b, c]) := Lib.hid (by rw [h3, List.append_assoc, List.append_assoc]; rfl)
      have hfa := HF.out a ma
      have hfb := HF.out b mb
      have hfc := HF.out c mc
      have HLE : Hid (∀ k, (rowG (xs.take (t * 3) ++ [a, b, c].take k)).length ≤ 700000) := Lib.hid fun k => by
        have h5 := HGT.out (t * 3)
        have h6 := rowG_le (xs := [a, b, c].take k) (fun x hx => by have := List.mem_of_mem_take hx; simp at this; omega)
        have h7 : ([a, b, c].take k).length ≤ 3 := by rw [List.length_take]; have : [a, b, c].length = 3 := rfl; omega
        rw [rowG_append, List.length_append]
        omega
      clear h0 h1 h2 h3 ma mb mc
      have H2 := Hr.alloc #[.int .u64 (a : Int), .int .u64 (b : Int), .int .u64 (c : Int)] 29
      go_wp2_with fail
      clear k0 k1 k2
      generalize wr.alloc _ = w2 at *
      generalize wr.heap.size = q0 at *
      generalize xs.take (t * 3) = L0 at *
      go_loopg [17] 3 (fun gk i wr => ∃ k : Nat, Hid (k ≤ 3 ∧ gk = 3 - k) ∧ i = .int .i64 (k : Int) ∧ Sep wr (Wr q (rowG (L0 ++ [a, b, c].take k)) :: F))
      case atStart => exact ⟨0, Lib.hid ⟨by omega, rfl⟩, rfl, by rw [List.take_zero, List.append_nil]; exact H2.tail⟩
      case round =>
        clear H2 Hr
        obtain ⟨k, hq, rfl, Hr⟩ := hrel
        obtain ⟨q3, q4⟩ := hq.out
        clear hq
        by_cases hk : k < 3
        · obtain ⟨x, hx, hor⟩ := three_get a b c hk
          have ik := idx_three hx
          have hx4 : x ≤ 4194304 := by omega
          have HNX := Lib.hid (three_next hx L0)
          have hb := HLE.out k
          have hki : (k : Int) < 3 := by omega
          have hsz := size_fine hx4
          have PC := nput_ok (n := x) (by omega) (by omega) Hr
          rw [← rowG_snoc, ← HNX.out] at PC
          clear hx hor hb HNX
          go_wp2_with fail
          refine PC.mono ?_
          rintro _ w5 ⟨rfl, H5⟩
          clear PC Hr
          go_wp2_with fail
          go_roundg (3 - (k + 1))
          case rel => exact ⟨k + 1, Lib.hid ⟨by omega, rfl⟩, by go_num, H5⟩
          case measure => omega
        · obtain rfl : k = 3 := by omega
          have hki : ¬ (3 : Int) < 3 := by omega
          have HL1 : Hid (L0 ++ [a, b, c].take 3 = xs.take ((t + 1) * 3)) := Lib.hid HB3.out.symm
          rw [HL1.out] at Hr
          go_wp2_with fail
          go_roundg (n - (t + 1))
          case rel => exact ⟨t + 1, Lib.hid ⟨by omega, rfl⟩, by go_num, Hr⟩
          case measure => omega
    · obtain rfl : t = n := by omega
      have hti : ¬ (t : Int) < (t : Int) := by omega
      have hb := HGT.out (t * 3)
      rw [List.take_of_length_le (by rw [HL.out]; exact Nat.le_refl _)] at Hr hb
      have hPB : rplainB xs = 0 :: pk (rowG xs) := rfl
      have HPB := Lib.hid hPB
      clear hPB HGT
      generalize rowG xs = L at *
      have HA := Hr.alloc #[.int .u8 0] 5
      have HN : Sep _ (HP.row 5 1 (.slice (some ⟨wr.heap.size, 0, none⟩) 1 1) 1 [.int .u8 0] :: _) := Sep.row_shut HA (Nat.le_refl _) (by unfold maxLen; omega) rfl rfl
      have BO := bytes_ok (b := q) (l := L) (by omega) HN.swap
      have hpl := pk_length L
      have h63 : 1 + (pk L).length ≤ maxLen := by unfold maxLen; omega
      have hby : (1 + (pk L).length) * 1 ≤ 140737488355328 := by omega
      clear hpl
      clear HA
      go_wp2_with fail
      refine BO.mono ?_
      rintro _ w6 ⟨r6, rfl, H6⟩
      obtain ⟨ra, rc, rfl⟩ := H6.row_form
      have hrd6 := H6.rd
      have H7 := H6.rot3
      clear BO H6
      go_wp2_with ((at_builtin; go_must (refine wpList_append_src rfl (.tmp 25) (.tmp 27) 33 rfl 5 (.int .u8 0) 1 1 Try.underlying33 info_u8 rfl (by decide) (.slice (some ⟨wr.heap.size, 0, none⟩) 1 1) 1 [.int .u8 0] rfl H7 (.slice ra (pk L).length rc) _ _ rfl hrd6 (u8v_one _) h63 hby ?_); intro v7 w7 H8))
      go_ret
      refine ⟨_, rfl, ?_⟩
      have e1 : (rplainB xs).length = 1 + (pk L).length := by rw [HPB.out, List.length_cons, Nat.add_comm]
      have e2 : (rplainB xs).map bv = [Value.int .u8 0] ++ (pk L).map u8v := by rw [HPB.out, List.map_cons]; rfl
      rw [e1, e2]
      exact H8.swap.tail.swap.tail

set_option maxRecDepth 100000 in
set_option maxHeartbeats 4000000 in
theorem contexts_calls {n : Nat} {F : List HP} {w : World} (hn : n ≤ 4096) (H : Sep w F) :
    Calls Try.prog 73 #[.int .i64 (n : Int)] w (Gives fun r w' => Sep w' (HP.row 3 1 r (3 * n) ((cxs (3 * n)).map dv) :: F)) := by
  have H1 := H.row_nil 3 1
  go_enter Try.func73, Try.ntmps73
  go_wp2_with fail
  go_loopg [3, 5] n (fun gk u i wr => ∃ (t : Nat) (ua : Option Addr) (uc : Nat), Hid (t ≤ n ∧ gk = n - t) ∧ u = .slice ua (3 * t) uc ∧ i = .int .i64 (t : Int) ∧ Sep wr (HP.row 3 1 (.slice ua (3 * t) uc) (3 * t) ((cxs (3 * t)).map dv) :: F))
  case atStart => exact ⟨0, none, 0, Lib.hid ⟨by omega, rfl⟩, rfl, rfl, H1⟩
  case round =>
    clear H H1
    obtain ⟨t, ua, uc, hq, rfl, rfl, Hr⟩ := hrel
    obtain ⟨q1, q2⟩ := hq.out
    clear hq
    by_cases ht : t < n
    · have hti : (t : Int) < (n : Int) := by omega
      have HA := Hr.alloc #[.int .i64 0, .int .i64 1, .int .i64 2] 3
      have hrn : RdS (wr.alloc (.cells #[.int .i64 0, .int .i64 1, .int .i64 2] 3)) (.slice (some ⟨wr.heap.size, 0, none⟩) 3 3) 3 1 [.int .i64 0, .int .i64 1, .int .i64 2] := rd_pt rfl HA
      have h63 : 3 * t + 3 ≤ maxLen := by unfold maxLen; omega
      have hby : (3 * t + 3) * 8 ≤ 140737488355328 := by omega
      have HM : Hid ((cxs (3 * t)).map dv ++ [.int .i64 0, .int .i64 1, .int .i64 2] = (cxs (3 * (t + 1))).map dv) := Lib.hid (by rw [cxs_three, List.map_append]; rfl)
      have hm3 : 3 * t + 3 = 3 * (t + 1) := by omega
      have HM3 := Lib.hid hm3
      clear hm3
      have HB := HA.swap
      clear HA
      go_wp2_with ((at_builtin; go_must (refine wpList_append_src rfl (.tmp 7) (.tmp 8) 40 rfl 3 (.int .i64 0) 1 8 Try.underlying40 info_iv rfl (by decide) (.slice ua (3 * t) uc) (3 * t) _ rfl HB (.slice (some ⟨wr.heap.size, 0, none⟩) 3 3) 3 [.int .i64 0, .int .i64 1, .int .i64 2] rfl hrn (by intro u hu; simp at hu; rcases hu with rfl | rfl | rfl <;> rfl) h63 hby ?_); intro v7 w7 H7; obtain ⟨va, vc, hv7⟩ := H7.row_form; subst hv7))
      rw [HM.out, HM3.out] at H7
      rw [HM3.out]
      have H8 := H7.swap.tail
      clear H7
      go_roundg (n - (t + 1))
      case rel => exact ⟨t + 1, va, vc, Lib.hid ⟨by omega, rfl⟩, rfl, by go_num, H8⟩
      case measure => omega
    · obtain rfl : t = n := by omega
      have hti : ¬ (t : Int) < (t : Int) := by omega
      go_wp2_with fail
      go_ret
      exact ⟨_, rfl, Hr⟩

end Go.Proofs.Ytbhpcpcpccmacaa
