/- reference 29: Plain, Classed. -/
import Derived.Test.YtbhpcpcpccmacaaRef29c
import Derived.Test.YtbhpcpcpccmacaaRes9
namespace Go.Proofs.Ytbhpcpcpccmacaa
open Go.RowKit Go.Shelf

set_option maxRecDepth 100000 in
set_option maxHeartbeats 8000000 in
theorem rplain29_calls {v : Value} {n : Nat} {xs : List Nat} {F : List HP} {w : World} (hf : Fine xs) (hn : n ≤ 4096) (hrd : Reads F v n 3 (xs.map uv)) (H : Sep w F) :
    Calls Try.prog 38 #[v] w (Gives fun r w' => Sep w' (HP.row 5 1 r (rplainB xs).length ((rplainB xs).map bv) :: F)) := by
  obtain ⟨va, vc, rfl⟩ := (hrd w H).form
  have hl : xs.length = n * 3 := by have := (hrd w H).1; rw [List.length_map] at this; exact this
  have hgl := rowG_le hf
  have HA := H.alloc #[.int .u8 0] 5
  have HN : Sep _ (HP.row 5 1 (.slice (some ⟨w.heap.size, 0, none⟩) 1 1) 1 [.int .u8 0] :: _) := Sep.row_shut HA (Nat.le_refl _) (by unfold maxLen; omega) rfl rfl
  have BC := rbits29_calls (v := .slice va n vc) (by omega) hrd.cons HN
  rw [gB_fine hf] at BC
  have HPB : Hid (rplainB xs = 0 :: pk (rowG xs)) := Lib.hid rfl
  have hL : (rowG xs).length ≤ 600000 := by omega
  clear hgl hl HA
  generalize rowG xs = L at *
  go_enter Try.func38, Try.ntmps38
  go_wp2_with fail
  refine BC.mono ?_
  rintro _ w2 ⟨r2, rfl, H2⟩
  obtain ⟨ba, bc, rfl⟩ := H2.row_form
  clear BC HN
  have BO := rbytes_calls (v := .slice ba L.length bc) (l := L) (by omega) Reads.row H2
  have hpl := pk_length L
  have h63 : 1 + (pk L).length ≤ maxLen := by unfold maxLen; omega
  have hby : (1 + (pk L).length) * 1 ≤ 140737488355328 := by omega
  clear hpl
  go_wp2_with fail
  refine BO.mono ?_
  rintro _ w6 ⟨r6, rfl, H6⟩
  obtain ⟨ra, rc, rfl⟩ := H6.row_form
  have hrd6 := H6.rd
  have H7 := H6.rot3
  clear BO H6
  go_wp2_with ((at_builtin; go_must (refine wpList_append_src rfl (.tmp 3) (.tmp 6) 33 rfl 5 (.int .u8 0) 1 1 Try.underlying33 info_u8 rfl (by decide) (.slice (some ⟨w.heap.size, 0, none⟩) 1 1) 1 [.int .u8 0] rfl H7 (.slice ra (pk L).length rc) _ _ rfl hrd6 (u8v_one _) h63 hby ?_); intro v7 w7 H8))
  go_ret
  refine ⟨_, rfl, ?_⟩
  have e1 : (rplainB xs).length = 1 + (pk L).length := by rw [HPB.out, List.length_cons, Nat.add_comm]
  have e2 : (rplainB xs).map bv = [Value.int .u8 0] ++ (pk L).map u8v := by rw [HPB.out, List.map_cons]; rfl
  rw [e1, e2]
  exact H8.swap.tail.swap.tail

end Go.Proofs.Ytbhpcpcpccmacaa
