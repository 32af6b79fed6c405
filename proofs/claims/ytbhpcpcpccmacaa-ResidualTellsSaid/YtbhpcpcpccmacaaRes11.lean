/- residual: reader, unplain. -/
import Derived.Test.YtbhpcpcpccmacaaRes9
import Derived.Test.YtbhpcpcpccmacaaRes4
namespace Go.Proofs.Ytbhpcpcpccmacaa
open Go.RowKit Go.Shelf

theorem info_arr : (Try.prog.info? 29).map (fun i => (i.zero, i.size, i.bytes)) = some (some (.agg #[.int .u64 0, .int .u64 0, .int .u64 0]), 3, 24) := by kernel_rfl
theorem uv_one (l : List Nat) : ∀ u ∈ l.map uv, u.oneCell' = true := by
  intro u hu
  obtain ⟨x, -, rfl⟩ := List.mem_map.1 hu
  rfl
theorem reader_calls {v : Value} {b : List Nat} {F : List HP} {w : World} (hlt : ∀ d ∈ b, d < 256) (hl : b.length ≤ 4194304) (hrd : Reads F v b.length 1 (b.map bv)) (H : Sep w F) :
    Calls Try.prog 75 #[v] w fun e w' => ∃ q, e = .returned (.pointer (some ⟨q, 0, none⟩)) ∧ Sep w' (Rdr q (allBits b) 0 :: F) := by
  obtain ⟨a, cap, rfl⟩ := (hrd w H).form
  have NC := nr_all (n := ((8 * b.length : Nat) : Int)) hlt (hrd w H) H
  have hob := openBits_whole hl
  have hm : (8 : Int) * (b.length : Int) = ((8 * b.length : Nat) : Int) := by omega
  have HOB := Lib.hid hob
  clear hob
  generalize 8 * b.length = m at *
  have HNC := Lib.hid NC
  clear NC
  go_enter Try.func75, Try.ntmps75
  go_wp2_with fail
  refine HNC.out.mono ?_
  rintro _ w1 ⟨r1, rfl, ⟨he, -, -⟩ | ⟨q, l, hob, rfl, H1⟩⟩
  · exact absurd (by rw [HOB.out]) he
  rw [HOB.out] at hob
  simp only [Prod.mk.injEq, true_and] at hob
  subst hob
  go_wp2_with fail
  go_ret
  exact ⟨q, rfl, H1⟩
theorem rd_three {w : World} {b a0 a1 a2 : Nat} {T : TypeId} {F : List HP} (H : Sep w (HP.pt b #[.int .u64 (a0 : Int), .int .u64 (a1 : Int), .int .u64 (a2 : Int)] T :: F)) : RdS w (.slice (some ⟨b, 0, none⟩) 1 1) 1 3 ([a0, a1, a2].map uv) := by
  refine ⟨rfl, .inr ⟨_, _, rfl, fun j u hu => ?_⟩⟩
  rw [addr_add, Nat.zero_add]
  exact arr_cell (l := [.int .u64 (a0 : Int), .int .u64 (a1 : Int), .int .u64 (a2 : Int)]) H hu
theorem getN_le (l : List Bool) : (getN l).1 ≤ 4294967296 := by
  unfold getN
  split
  · omega
  split
  · omega
  split
  · omega
  · simp only
    omega

/-- What unplain gives. -/
def UPost (n : Nat) (b : List Nat) (F : List HP) (r : Value) (w' : World) : Prop :=
  (∃ out u, out.length = n * 3 ∧ (∀ x ∈ out, x ≤ 18446744073709551615) ∧ (∀ xs, Fine xs → xs.length = n * 3 → pk (rowG xs) = b → out = xs) ∧ r = .tuple #[u, .bool true] ∧ Sep w' (HP.row 29 3 u n (out.map uv) :: F)) ∨
  ((∀ xs, Fine xs → xs.length = n * 3 → pk (rowG xs) ≠ b) ∧ r = .tuple #[.slice none 0 0, .bool false] ∧ Sep w' F)

/-- If xs is the row, the numbers read so far are its first ones, and so many bits are read. -/
def Upto (n : Nat) (b : List Nat) (out : List Nat) (j : Nat) : Prop := ∀ xs, Fine xs → xs.length = n * 3 → pk (rowG xs) = b → out = xs.take out.length ∧ j = (rowG (xs.take out.length)).length
theorem upto_next {n : Nat} {b out : List Nat} {j : Nat} (h : Upto n b out j) (hn : n ≤ 4096) (hk : out.length < n * 3) :
    ∀ xs, Fine xs → xs.length = n * 3 → pk (rowG xs) = b → ∃ x, xs[out.length]? = some x ∧ getN ((allBits b).drop j) = (x, sizeN x, 0) := by
  intro xs hf hl hp
  obtain ⟨h1, h2⟩ := h xs hf hl hp
  have hlt : out.length < xs.length := by omega
  have hx := hf _ (List.getElem_mem hlt)
  have hg : (rowG xs).length ≤ 600000 := by have := rowG_le hf; omega
  obtain ⟨y, hy⟩ := allBits_pk (l := rowG xs) (by omega)
  refine ⟨xs[out.length], List.getElem?_eq_getElem hlt, ?_⟩
  have hsp : xs = xs.take out.length ++ (xs[out.length] :: xs.drop (out.length + 1)) := by rw [← List.drop_eq_getElem_cons hlt, List.take_append_drop]
  have hrg : rowG xs = rowG (xs.take out.length) ++ (longN xs[out.length] ++ rowG (xs.drop (out.length + 1))) := by
    conv => lhs; rw [hsp]
    rw [rowG_append]
    rfl
  rw [← hp, hy, hrg, h2, List.append_assoc, List.drop_left' rfl, List.append_assoc]
  exact getN_long (by omega) _
theorem upto_step {n : Nat} {b out : List Nat} {j v : Nat} (h : Upto n b out j) (hn : n ≤ 4096) (hk : out.length < n * 3) (hv : (getN ((allBits b).drop j)).1 = v) :
    Upto n b (out ++ [v]) (j + (getN ((allBits b).drop j)).2.1) := by
  intro xs hf hl hp
  obtain ⟨x, hx, hg⟩ := upto_next h hn hk xs hf hl hp
  obtain ⟨h1, h2⟩ := h xs hf hl hp
  rw [hg] at hv ⊢
  simp only at hv ⊢
  subst hv
  obtain ⟨hlt, hxe⟩ := List.getElem?_eq_some_iff.1 hx
  have ht : xs.take (out.length + 1) = xs.take out.length ++ [x] := by rw [List.take_succ_eq_append_getElem hlt, hxe]
  rw [List.length_append, List.length_singleton, ht, rowG_snoc, List.length_append, longN_length, ← h1, h2]
  refine ⟨rfl, ?_⟩
  rw [← h1]

set_option maxRecDepth 100000 in
set_option maxHeartbeats 8000000 in
theorem runplain_calls {v : Value} {n : Nat} {b : List Nat} {F : List HP} {w : World} (hn : n ≤ 4096) (hlt : ∀ d ∈ b, d < 256) (hl : b.length ≤ 4194304) (hrd : Reads F v b.length 1 (b.map bv)) (H : Sep w F) :
    Calls Try.prog 46 #[v, .int .i64 (n : Int)] w (Gives (UPost n b F)) := by
  obtain ⟨a, cap, rfl⟩ := (hrd w H).form
  have RC := reader_calls hlt hl hrd H
  have hB : (allBits b).length ≤ 33554432 := by rw [allBits_length]; omega
  have HB := Lib.hid hB
  clear hB
  go_enter Try.func46, Try.ntmps46
  go_wp2_with fail
  refine RC.mono ?_
  rintro _ w1 ⟨q, rfl, H1⟩
  clear RC H
  have H2 := H1.row_nil 29 3
  go_wp2_with fail
  go_loopg [7, 15] n (fun gk u i wr => ∃ (t j : Nat) (out : List Nat) (ua : Option Addr) (uc : Nat), Hid (t ≤ n ∧ gk = n - t ∧ out.length = t * 3 ∧ (∀ x ∈ out, x ≤ 18446744073709551615) ∧ Upto n b out j ∧ j ≤ (allBits b).length) ∧ u = .slice ua t uc ∧ i = .int .i64 (t : Int) ∧ Sep wr (HP.row 29 3 (.slice ua t uc) t (out.map uv) :: Rdr q (allBits b) j :: F))
  case atStart => exact ⟨0, 0, [], none, 0, Lib.hid ⟨by omega, rfl, rfl, by simp, fun xs _ _ _ => ⟨by simp, by simp [rowG]⟩, Nat.zero_le _⟩, rfl, rfl, H2⟩
  case round =>
    clear H1 H2
    obtain ⟨t, j, out, ua, uc, hq, rfl, rfl, Hr⟩ := hrel
    obtain ⟨q1, q2, q3, q4, q5, q6⟩ := hq.out
    have Q3 := Lib.hid q3
    have Q4 := Lib.hid q4
    have Q5 := Lib.hid q5
    clear hq q3 q4 q5
    by_cases ht : t < n
    · have hti : (t : Int) < (n : Int) := by omega
      have HA := Hr.alloc #[.int .u64 0, .int .u64 0, .int .u64 0] 29
      clear Hr
      go_wp2_with fail
      generalize wr.alloc _ = w2 at *
      generalize wr.heap.size = qx at *
      go_loopg [17] 3 (fun gk i wr => ∃ (k j : Nat) (y : List Nat), Hid (k ≤ 3 ∧ gk = 3 - k ∧ y.length = k ∧ (∀ x ∈ y, x ≤ 4294967296) ∧ Upto n b (out ++ y) j ∧ j ≤ (allBits b).length) ∧ i = .int .i64 (k : Int) ∧ Sep wr (HP.pt qx (y.map uv ++ List.replicate (3 - k) (Value.int .u64 0)).toArray 29 :: HP.row 29 3 (.slice ua t uc) t (out.map uv) :: Rdr q (allBits b) j :: F))
      case atStart => exact ⟨0, j, [], Lib.hid ⟨by omega, rfl, rfl, by simp, by rw [List.append_nil]; exact Q5.out, q6⟩, rfl, HA⟩
      case round =>
        clear HA q6
        obtain ⟨k, j, y, hq, rfl, Hr⟩ := hrel
        obtain ⟨p1, p2, p3, p4, p5, p6⟩ := hq.out
        have P3 := Lib.hid p3
        have P4 := Lib.hid p4
        have P5 := Lib.hid p5
        clear hq p3 p4 p5
        by_cases hk : k < 3
        · have hki : (k : Int) < 3 := by omega
          have hol : (out ++ y).length < n * 3 := by rw [List.length_append, Q3.out, P3.out]; omega
          have GC := nget_all p6 HB.out Hr.rot3
          have HNX := Lib.hid (upto_next P5.out hn hol)
          have HST := Lib.hid fun (v : Nat) (h : (getN ((allBits b).drop j)).1 = v) => upto_step P5.out hn hol h
          have hgl := getN_le ((allBits b).drop j)
          clear hol
          generalize hg : getN ((allBits b).drop j) = G at *
          obtain ⟨gv, gs, ge⟩ := G
          simp only at GC HST hgl HNX
          clear hg
          by_cases hge : ge = 0
          · subst hge
            have hcell : (y.map uv ++ List.replicate (3 - k) (Value.int .u64 0))[k]? = some (.int .u64 0) := by
              rw [List.getElem?_append_right (by rw [List.length_map, P3.out]; exact Nat.le_refl _), List.length_map, P3.out, Nat.sub_self, List.getElem?_replicate, if_pos (by omega)]
            have hset : (y.map uv ++ List.replicate (3 - k) (Value.int .u64 0)).set k (.int .u64 (gv : Int)) = (y ++ [gv]).map uv ++ List.replicate (3 - (k + 1)) (.int .u64 0) := by
              rw [List.set_append_right _ _ (by rw [List.length_map, P3.out]; exact Nat.le_refl _), List.length_map, P3.out, Nat.sub_self, show 3 - k = (3 - (k + 1)) + 1 by omega, List.replicate_succ, List.set_cons_zero, List.map_append, List.append_assoc]
              rfl
            have HC := Lib.hid hcell
            have HS := Lib.hid hset
            clear hcell hset
            go_wp2_with fail
            refine GC.mono ?_
            rintro _ w5 ⟨rfl, j2, hj2, hj3, H5⟩
            have hj4 : j2 = j + gs := hj3 (by first | rfl | trivial)
            have HJ := Lib.hid hj4
            clear GC hj3 hj4 Hr
            have H6 := H5.mid2
            have kc := arr_cell H6 HC.out
            have kf := H6.froz k
            have H7 := arr_set H6 k (.int .u64 (gv : Int))
            rw [HS.out] at H7
            have hk0 : ¬ (k : Int) < 0 := by omega
            go_wp2_with fail
            go_roundg (3 - (k + 1))
            case rel => exact ⟨k + 1, j2, y ++ [gv], Lib.hid ⟨by omega, rfl, by rw [List.length_append, P3.out]; rfl, fun x hx => by
              rcases List.mem_append.1 hx with hx | hx
              · exact P4.out x hx
              · obtain rfl : x = gv := by simpa using hx
                exact hgl, by rw [← List.append_assoc, HJ.out]; exact HST.out gv rfl, hj2⟩, by go_num, H7⟩
            case measure => omega
          · have HNO : Hid (∀ xs, Fine xs → xs.length = n * 3 → pk (rowG xs) ≠ b) := Lib.hid fun xs h1 h2 h3 => by
              obtain ⟨x, -, hx⟩ := HNX.out xs h1 h2 h3
              simp only [Prod.mk.injEq] at hx
              exact hge hx.2.2
            have hgi : ¬ (ge : Int) = 0 := by omega
            have hgb : ((ge : Int) != 0) = true := by rw [bne_iff_ne]; exact hgi
            go_wp2_with fail
            refine GC.mono ?_
            rintro _ w5 ⟨rfl, j2, hj2, hj3, H5⟩
            clear GC hj3 Hr
            go_wp2_with fail
            go_ret2
            exact ⟨_, rfl, .inr ⟨HNO.out, rfl, H5.tail.tail.tail⟩⟩
        · obtain rfl : k = 3 := by omega
          have hki : ¬ (3 : Int) < 3 := by omega
          obtain ⟨a0, a1, a2, hy⟩ := list_three P3.out
          subst hy
          have hfull : ([a0, a1, a2].map uv ++ List.replicate (3 - 3) (Value.int .u64 0)).toArray = #[.int .u64 (a0 : Int), .int .u64 (a1 : Int), .int .u64 (a2 : Int)] := rfl
          rw [hfull] at Hr
          clear hfull
          have k0 := Hr.cell 0 rfl
          have k1 := Hr.cell 1 rfl
          have k2 := Hr.cell 2 rfl
          have HA := Hr.alloc #[.int .u64 (a0 : Int), .int .u64 (a1 : Int), .int .u64 (a2 : Int)] 29
          have hrn : RdS (wr.alloc (.cells #[.int .u64 (a0 : Int), .int .u64 (a1 : Int), .int .u64 (a2 : Int)] 29)) (.slice (some ⟨wr.heap.size, 0, none⟩) 1 1) 1 3 ([a0, a1, a2].map uv) := rd_three HA
          have HB2 := HA.rot3
          have h63 : t + 1 ≤ maxLen := by unfold maxLen; omega
          have hby : (t + 1) * 24 ≤ 140737488355328 := by omega
          have HM : Hid (out.map uv ++ [a0, a1, a2].map uv = (out ++ [a0, a1, a2]).map uv) := Lib.hid (by rw [List.map_append])
          have hOK : (out ++ [a0, a1, a2]).length = (t + 1) * 3 ∧ (∀ x ∈ out ++ [a0, a1, a2], x ≤ 18446744073709551615) := by
            refine ⟨by rw [List.length_append, Q3.out]; show t * 3 + 3 = _; omega, fun x hx => ?_⟩
            rcases List.mem_append.1 hx with hx | hx
            · exact Q4.out x hx
            · have := P4.out x hx
              omega
          have HOK := Lib.hid hOK
          clear hOK HA
          go_wp2_with ((at_builtin; go_must (refine wpList_append_src rfl (.tmp 31) (.tmp 33) 30 rfl 29 (.agg #[.int .u64 0, .int .u64 0, .int .u64 0]) 3 24 Try.underlying30 info_arr rfl (by decide) (.slice ua t uc) t _ rfl HB2 (.slice (some ⟨wr.heap.size, 0, none⟩) 1 1) 1 ([a0, a1, a2].map uv) rfl hrn (uv_one _) h63 hby ?_); intro v7 w7 H7; obtain ⟨va, vc, hv7⟩ := H7.row_form; subst hv7))
          rw [HM.out] at H7
          have H8 := H7.swap.tail.swap.tail
          clear H7 Hr HB2 hrn
          go_roundg (n - (t + 1))
          case rel => exact ⟨t + 1, j, out ++ [a0, a1, a2], va, vc, Lib.hid ⟨by omega, rfl, HOK.out.1, HOK.out.2, P5.out, p6⟩, rfl, by go_num, H8⟩
          case measure => omega
    · obtain rfl : t = n := by omega
      have hti : ¬ (t : Int) < (t : Int) := by omega
      have HUN : Hid (∀ xs, Fine xs → xs.length = t * 3 → pk (rowG xs) = b → out = xs) := Lib.hid fun xs h1 h2 h3 => by
        have := (Q5.out xs h1 h2 h3).1
        rw [Q3.out, List.take_of_length_le (by omega)] at this
        exact this
      go_wp2_with fail
      go_ret2
      exact ⟨_, rfl, .inl ⟨out, _, Q3.out, Q4.out, HUN.out, rfl, Hr.swap.tail⟩⟩

end Go.Proofs.Ytbhpcpcpccmacaa
