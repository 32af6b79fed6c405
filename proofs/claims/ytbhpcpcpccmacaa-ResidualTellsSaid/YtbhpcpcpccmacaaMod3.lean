/- model: plain. -/
import Derived.Test.YtbhpcpcpccmacaaGK
import Derived.Test.YtbhpcpcpccmacaaGD
import Derived.Test.YtbhpcpcpccmacaaGC
import Derived.Test.YtbhpcpcpccmacaaGI
namespace Go.Proofs.Ytbhpcpcpccmacaa
open Go.RowKit Go.Shelf

/-- The bits of a row, plain. -/
def rowBits (n : Nat) (ss : List Nat) : List Bool := ss.flatMap fun s => valBits s (widthN (n : Int))
def plainB (n : Nat) (ss : List Nat) : List Nat := 0 :: pk (rowBits n ss)
theorem width_8 {n : Nat} (h : n ≤ 256) : widthN (n : Int) ≤ 8 := by
  unfold widthN
  split
  · omega
  · exact bitLen_le (by omega) (by omega)
theorem rowBits_length (n : Nat) (ss : List Nat) : (rowBits n ss).length = ss.length * widthN (n : Int) := by
  induction ss with
  | nil => simp [rowBits]
  | cons s ss ih =>
    unfold rowBits at ih ⊢
    rw [List.flatMap_cons, List.length_append, ih, valBits_length, List.length_cons, Nat.add_mul, Nat.one_mul, Nat.add_comm]
theorem rowBits_snoc (n : Nat) (ss : List Nat) (s : Nat) : rowBits n (ss ++ [s]) = rowBits n ss ++ valBits s (widthN (n : Int)) := by simp [rowBits]

theorem u8_bv (l : List Nat) : l.map u8v = l.map bv := rfl
set_option maxRecDepth 100000 in
set_option maxHeartbeats 4000000 in
theorem plain_calls {v : Value} {n : Nat} {ss : List Nat} {F : List HP} {w : World} (hn2 : n ≤ 256) (hs : ∀ s ∈ ss, s < n) (hl : ss.length ≤ 65536) (hrd : Reads F v ss.length 1 (ss.map dv)) (H : Sep w F) :
    Calls Try.prog 50 #[.int .i64 (n : Int), v] w (Gives fun r w' => Sep w' (HP.row 5 1 r (plainB n ss).length ((plainB n ss).map bv) :: F)) := by
  obtain ⟨a, cap, rfl⟩ := (hrd w H).form
  have hw8 := width_8 hn2
  have HS := Lib.hid hs
  clear hs
  have H1 := Wr.new H
  have HBL : Hid (∀ t, (rowBits n (ss.take t)).length ≤ 524288) := Lib.hid fun t => by
    rw [rowBits_length]
    have h1 : (ss.take t).length ≤ 65536 := by rw [List.length_take]; omega
    have := Nat.mul_le_mul h1 hw8
    omega
  go_enter Try.func50, Try.ntmps50
  go_wp2_with fail
  generalize w.heap.size = q at *
  go_loopg [12] ss.length (fun gk i wr => ∃ t : Nat, Hid (t ≤ ss.length ∧ gk = ss.length - t) ∧ i = .int .i64 (t : Int) ∧ Sep wr (Wr q (rowBits n (ss.take t)) :: F))
  case atStart => exact ⟨0, Lib.hid ⟨by omega, rfl⟩, rfl, H1⟩
  case round =>
    clear H1
    obtain ⟨t, hq, rfl, Hr⟩ := hrel
    obtain ⟨q1, q2⟩ := hq.out
    clear hq
    by_cases ht : t < ss.length
    · obtain ⟨g, o, cp, he⟩ := (hrd _ Hr.tail).open (by omega)
      simp only [Value.slice.injEq, true_and] at he
      obtain ⟨rfl, rfl⟩ := he
      have kb := (hrd _ Hr.tail).cell t (dv_at (List.getElem?_eq_getElem ht))
      have hst := HS.out _ (List.getElem_mem ht)
      have HT : Hid (rowBits n (ss.take (t + 1)) = rowBits n (ss.take t) ++ valBits ss[t] (widthN (n : Int))) := Lib.hid (by rw [List.take_succ_eq_append_getElem ht, rowBits_snoc])
      have hb := HBL.out t
      generalize ss[t] = s at *
      have hti : (t : Int) < (ss.length : Int) := by omega
      have FX := fixed_ok (v := (s : Int)) (b := (n : Int)) (by omega) (by omega) (by omega) (by omega) Hr
      rw [Int.toNat_natCast, ← HT.out] at FX
      go_wp2_with fail
      refine FX.mono ?_
      rintro _ w5 ⟨rfl, H5⟩
      clear FX Hr kb
      go_wp2_with fail
      go_roundg (ss.length - (t + 1))
      case rel => exact ⟨t + 1, Lib.hid ⟨by omega, rfl⟩, by go_num, H5⟩
      case measure => omega
    · obtain rfl : t = ss.length := by omega
      have hti : ¬ (ss.length : Int) < (ss.length : Int) := by omega
      have hb := HBL.out ss.length
      rw [List.take_length] at Hr hb
      generalize hL : rowBits n ss = L at *
      have HL := Lib.hid hL
      clear hL HBL
      have HA := Hr.alloc #[.int .u8 0] 5
      have HN : Sep _ (HP.row 5 1 (.slice (some ⟨wr.heap.size, 0, none⟩) 1 1) 1 [.int .u8 0] :: _) := Sep.row_shut HA (Nat.le_refl _) (by unfold maxLen; omega) rfl rfl
      have BO := bytes_ok (b := q) (l := L) (by omega) HN.swap
      have hpl := pk_length L
      have h63 : 1 + (pk L).length ≤ maxLen := by unfold maxLen; omega
      have hby : (1 + (pk L).length) * 1 ≤ 140737488355328 := by omega
      clear hpl
      clear HA
      go_wp2_with fail
      refine BO.mono ?_
      rintro _ w6 ⟨r6, rfl, H6⟩
      obtain ⟨ra, rc, rfl⟩ := H6.row_form
      have hrd6 := H6.rd
      have H7 := H6.rot3
      clear BO H6
      go_wp2_with ((at_builtin; go_must (refine wpList_append_src rfl (.tmp 21) (.tmp 23) 33 rfl 5 (.int .u8 0) 1 1 Try.underlying33 info_u8 rfl (by decide) (.slice (some ⟨wr.heap.size, 0, none⟩) 1 1) 1 [.int .u8 0] rfl H7 (.slice ra (pk L).length rc) _ _ rfl hrd6 (u8v_one _) h63 hby ?_); intro v7 w7 H8))
      go_ret
      refine ⟨_, rfl, ?_⟩
      have e1 : (plainB n ss).length = 1 + (pk L).length := by unfold plainB; rw [HL.out, List.length_cons, Nat.add_comm]
      have e2 : (plainB n ss).map bv = [Value.int .u8 0] ++ (pk L).map u8v := by unfold plainB; rw [HL.out, List.map_cons]; rfl
      rw [e1, e2]
      exact H8.swap.tail.swap.tail

end Go.Proofs.Ytbhpcpcpccmacaa
