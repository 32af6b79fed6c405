/- XBits XBits2 XBits3 XBits4 -/
import Derived.Test.YtbhpcpcpccmacaaProg
import Derived.Test.YtbhpcpcpccmacaaGA
import Derived.WalkKit
import Derived.WalkSpells
import Derived.WalkLawsBesides
import Derived.StillTailTactics
import Derived.BigQuiet
import Derived.Lib.Hide
import Derived.Deep.DeepFit
import Derived.Deep.DeepCutAuto
import Derived.Deep.QuietTactic

namespace Go.Proofs.Ytbhpcpcpccmacaa
open Go.RowKit

/-- A byte as a value. -/
def u8v (x : Nat) : Value := .int .u8 (x : Int)

/-- A writer, at the head of block b, that holds the bits l. -/
def Wr (b : Nat) (l : List Bool) : HP := HP.ex fun sv => HP.all [HP.pt b #[sv, .int .i64 (l.length : Int)] 94, HP.row 5 1 sv (pk l).length ((pk l).map u8v)]

theorem Wr.open {w : World} {b : Nat} {l : List Bool} {R : List HP} (h : Sep w (Wr b l :: R)) :
    ∃ sv, Sep w (HP.pt b #[sv, .int .i64 (l.length : Int)] 94 :: HP.row 5 1 sv (pk l).length ((pk l).map u8v) :: R) := by
  obtain ⟨sv, h⟩ := h.ex_elim
  exact ⟨sv, h.all_elim⟩

set_option maxHeartbeats 400000 in
theorem len_calls {b : Nat} {l : List Bool} {R : List HP} {w : World} (H : Sep w (Wr b l :: R)) :
    Calls Try.prog 93 #[.pointer (some ⟨b, 0, none⟩)] w fun e w' => e = .returned (.int .i64 (l.length : Int)) ∧ w = w' := by
  obtain ⟨sv, H⟩ := Wr.open H
  have c1 := H.cell 1 rfl
  clear H
  go_enter Try.func93, Try.ntmps93
  go_wp2
  go_ret
  exact ⟨rfl, rfl⟩

theorem int_shr {v n : Nat} (h : v < 2 ^ n) : (((v : Int) / 2 ^ n) != 0) = false := by
  have : (v : Int) / 2 ^ n = ((v / 2 ^ n : Nat) : Int) := by simp
  rw [this, Nat.div_eq_of_lt h]; rfl

theorem info_u8 : (Try.prog.info? 5).map (fun i => (i.zero, i.size, i.bytes)) = some (some (.int .u8 0), 1, 1) := by kernel_rfl

/-- The bit that is put, as the walk writes it. -/
theorem put_bit (v n k : Nat) (hv : v < 2 ^ 64) : bits BinOp.and IntKind.u64 ((v : Int) / 2 ^ (n - 1 - k)) 1 = ((v.testBit (n - 1 - k)).toNat : Int) := by
  have e : (v : Int) / 2 ^ (n - 1 - k) = ((v / 2 ^ (n - 1 - k) : Nat) : Int) := by simp
  have hle : v / 2 ^ (n - 1 - k) ≤ v := Nat.div_le_self _ _
  have h64 : (2 : Nat) ^ 64 = 18446744073709551616 := by decide +kernel
  have hb : (v : Int) / 2 ^ (n - 1 - k) ≤ 18446744073709551615 := by rw [e]; omega
  have h0 : 0 ≤ (v : Int) / 2 ^ (n - 1 - k) := by rw [e]; exact Int.natCast_nonneg _
  rw [and_one_u64 _ h0 hb]
  exact testBit_int v _

theorem put_byte (m : List Bool) (x : Bool) : bits BinOp.or IntKind.u8 (byteAt m (m.length / 8) : Int) ((x.toNat : Int) * 2 ^ (7 - m.length % 8) % 256) = (byteAt (m ++ [x]) (m.length / 8) : Int) := by
  have hp : 2 ^ (7 - m.length % 8) ≤ 128 := by
    have : 2 ^ (7 - m.length % 8) ≤ 2 ^ 7 := Nat.pow_le_pow_right (by decide) (by omega)
    simpa using this
  have hx : x.toNat ≤ 1 := Bool.toNat_le x
  have hlt : x.toNat * 2 ^ (7 - m.length % 8) < 256 := by
    have : x.toNat * 2 ^ (7 - m.length % 8) ≤ 1 * 2 ^ (7 - m.length % 8) := Nat.mul_le_mul_right _ hx
    omega
  have e : (x.toNat : Int) * 2 ^ (7 - m.length % 8) % 256 = ((x.toNat * 2 ^ (7 - m.length % 8) : Nat) : Int) := by
    rw [← Nat.mod_eq_of_lt hlt]; simp
  rw [e, ← byteAt_or]
  exact u8_or_nat _ _ (byteAt_lt _ _) hlt

theorem put_close {W : World} {b g q cap : Nat} {cur : Array Value} {m : List Bool} {x : Bool} {R : List HP}
    (H : Sep W (HP.pt g cur 5 :: HP.pt b #[.slice (some ⟨g, 0, none⟩) q cap, .int .i64 (m.length : Int)] 94 :: R))
    (hq : q = m.length / 8 + 1) (h1 : q ≤ cap) (h2 : cap ≤ maxLen) (h3 : cur.size = cap * 1) (ht : cur.toList.take (q * 1) = (pkN m (m.length / 8 + 1)).map u8v) :
    Sep ((W.setCell ⟨g, m.length / 8, none⟩ (.int .u8 (byteAt (m ++ [x]) (m.length / 8) : Int))).setCell ⟨b, 1, none⟩ (.int .i64 ((m.length : Int) + 1))) (Wr b (m ++ [x]) :: R) := by
  have H2 := (H.set (m.length / 8) (.int .u8 (byteAt (m ++ [x]) (m.length / 8) : Int))).swap.set 1 (.int .i64 ((m.length : Int) + 1))
  have e1 : (pk (m ++ [x])).length = q := by rw [pk_length, hq]; simp; omega
  refine Sep.ex_intro (.slice (some ⟨g, 0, none⟩) q cap) (Sep.all_intro ?_)
  rw [e1]
  have e2 : ((m ++ [x]).length : Int) = (m.length : Int) + 1 := by simp
  rw [e2]
  refine Sep.swap (Sep.row_shut (cur := cur.setIfInBounds (m.length / 8) (.int .u8 (byteAt (m ++ [x]) (m.length / 8) : Int))) ?_ h1 h2 (by simpa using h3) ?_)
  · exact H2.swap
  · rw [← pkN_snoc, List.map_set, ← ht]
    simp [Array.toList_setIfInBounds, List.take_set, u8v]

set_option maxRecDepth 100000 in
set_option maxHeartbeats 2000000 in
theorem put_ok {v n : Nat} {b : Nat} {l : List Bool} {R : List HP} {w : World} (hn : n ≤ 64) (hv : v < 2 ^ n) (hl : l.length + n ≤ 33554432) (H : Sep w (Wr b l :: R)) :
    Calls Try.prog 74 #[.pointer (some ⟨b, 0, none⟩), .int .u64 (v : Int), .int .i64 (n : Int)] w fun e w' => e = .returned (.int .i64 0) ∧ Sep w' (Wr b (l ++ valBits v n) :: R) := by
  have hv2 := int_shr hv
  have hv3 : v < 2 ^ 64 := Nat.lt_of_lt_of_le hv (Nat.pow_le_pow_right (by decide) hn)
  have HV := Lib.hid hv3
  clear hv hv3
  have c1 : w.cell? ⟨b, 1, none⟩ = some (.int .i64 (l.length : Int)) := by obtain ⟨sv, H⟩ := Wr.open H; exact H.cell 1 rfl
  have hc : n < 64 ∨ 64 ≤ n := by omega
  rcases hc with hc | hc
  all_goals
    go_enter Try.func74, Try.ntmps74
    go_wp2_with fail
    clear c1 hv2
    go_loopw [39] (fun i wr => ∃ k : Nat, k ≤ n ∧ i = .int .i64 k ∧ Sep wr (Wr b (l ++ (valBits v n).take k) :: R)) (fun i _ => n - (intOf i).toNat)
    case atStart => exact ⟨0, by omega, rfl, by simpa using H⟩
    case round =>
      clear H
      obtain ⟨k, hk, rfl, Hr⟩ := hrel
      by_cases hlt : k < n
      · have hml0 : (l ++ (valBits v n).take k).length = l.length + k := by simp [valBits_length]; omega
        have hnext : l ++ (valBits v n).take (k + 1) = (l ++ (valBits v n).take k) ++ [v.testBit (n - 1 - k)] := by rw [valBits_take v n k hlt, List.append_assoc]
        have hx1 := put_bit v n k HV.out
        generalize v.testBit (n - 1 - k) = x at hx1 hnext
        generalize l ++ (valBits v n).take k = m at Hr hml0 hnext
        have hx2 : (x.toNat : Int) % 256 = (x.toNat : Int) := by cases x <;> rfl
        have ho := put_byte m x
        have hml : m.length + 1 ≤ 33554432 := by omega
        clear hml0
        have hA0 : (0 : Int) ≤ (m.length : Int) / 8 := by omega
        have hA1 : ((m.length : Int) / 8).toNat = m.length / 8 := by omega
        have HX := Lib.hid hnext; clear hnext
        obtain ⟨sv, Hr⟩ := Wr.open Hr
        have c0 : wr.cell? ⟨b, 0, none⟩ = some sv := Hr.cell 0 rfl
        have c1 : wr.cell? ⟨b, 1, none⟩ = some (.int .i64 (m.length : Int)) := Hr.cell 1 rfl
        have f0 := Hr.froz 0
        have f1 := Hr.froz 1
        by_cases h8 : m.length % 8 = 0
        case' pos =>
          have h8' : (((m.length : Int) % 8) == 0) = true := by rw [beq_iff_eq]; omega
          have h63 : (pk m).length + 1 ≤ maxLen := by rw [pk_length]; unfold maxLen; omega
          have hby : ((pk m).length + 1) * 1 ≤ 140737488355328 := by rw [pk_length]; omega
          have hxs : (pk m).map u8v ++ [.int .u8 0] = (pkN m (m.length / 8 + 1)).map u8v := by rw [← pk_whole m h8]; simp [u8v]
          have HXS := Lib.hid hxs; clear hxs
          have Hq := Lib.hid (pk_len_whole m h8)
          clear h8
          go_wp2_with ((at_builtin; go_must (refine wpList_append_one rfl (.tmp 52) (.tmp 53) 33 rfl 5 (.int .u8 0) 1 Try.underlying33 info_u8 rfl sv _ _ (.int .u8 0) rfl rfl Hr.swap rfl h63 hby ?_); intro g cap w2 H2; have d0 := H2.swap.cell 0 rfl; have d1 := H2.swap.cell 1 rfl; have g0 := H2.swap.froz 0; have g1 := H2.swap.froz 1))
          have H3 := H2.swap.set 0 (.slice (some ⟨g, 0, none⟩) ((pk m).length + 1) cap)
          clear Hr c0 c1 f0 f1 d0 d1 g0 g1
          rw [HXS.out] at H3
          generalize w2.setCell ⟨b, 0, none⟩ (.slice (some ⟨g, 0, none⟩) ((pk m).length + 1) cap) = W at H3 ⊢
          generalize (pk m).length + 1 = q at H3 Hq ⊢
        case' neg =>
          have h8' : (((m.length : Int) % 8) == 0) = false := by rw [beq_eq_false_iff_ne]; omega
          have Hq := Lib.hid (pkN_length m (m.length / 8 + 1))
          have hne : (pk m).length ≠ 0 := by rw [pk_length]; omega
          obtain ⟨g, cap, _, rfl, _⟩ := Hr.swap.row_open hne
          have H3 := Hr
          rw [pk_full m h8] at H3
          rw [pk_full m h8] at c0
          go_wp2_with fail
          clear c0 c1 f0 f1 Hr
          generalize (pkN m (m.length / 8 + 1)).length = q at H3 Hq ⊢
          generalize wr = W at *
        all_goals
         have c0 : W.cell? ⟨b, 0, none⟩ = some (.slice (some ⟨g, 0, none⟩) q cap) := H3.cell 0 rfl
         have c1 : W.cell? ⟨b, 1, none⟩ = some (.int .i64 (m.length : Int)) := H3.cell 1 rfl
         have f0 := H3.froz 0
         have f1 := H3.froz 1
         have hq : m.length / 8 < q := by have := Hq.out; omega
         have hq' : (m.length : Int) / 8 < (q : Int) := by omega
         obtain ⟨g', cap', cur, he, hq1, hcm, hcs, ht, H4⟩ := H3.swap.row_open (by omega)
         simp only [Value.slice.injEq, Option.some.injEq, Addr.mk.injEq, and_true, true_and] at he
         obtain ⟨rfl, rfl⟩ := he
         have hu : ((pkN m (m.length / 8 + 1)).map u8v)[m.length / 8]? = some (.int .u8 (byteAt m (m.length / 8) : Int)) := by simp [pkN, u8v]
         have r0 : W.cell? ⟨g, m.length / 8, none⟩ = some (.int .u8 (byteAt m (m.length / 8) : Int)) := H4.cell _ (take_get (by simpa using ht) hu)
         have rf : W.frozen? ⟨g, m.length / 8, none⟩ = false := H4.froz _
         have hbg := H4.ne
         have H5 := H4.drew
         have HT := Lib.hid ht
         have HS := Lib.hid hcs
         have HC := Lib.hid (take_get (by simpa using ht) hu : cur[m.length / 8]? = _)
         clear H3 H4 ht hcs hu
         (refine wp_region_still_tail 22 (by kernel_rfl) (by kernel_rfl) ?_; simp only [List.take_succ_cons, List.take_zero, List.drop_succ_cons, List.drop_zero]; (repeat (refine wpStill_step (fun K hK => ?_); go_simp; (try go_bits); refine hK _ ?_; clear hK K)); try refine wpStill_nil ?_)
         change wpList _ _ _ _ _ (World.drew W)
         have c0 : W.drew.cell? ⟨b, 0, none⟩ = some (.slice (some ⟨g, 0, none⟩) q cap) := H5.swap.cell 0 rfl
         have c1 : W.drew.cell? ⟨b, 1, none⟩ = some (.int .i64 (m.length : Int)) := H5.swap.cell 1 rfl
         have f0 := H5.swap.froz 0
         have f1 := H5.swap.froz 1
         have r0 : W.drew.cell? ⟨g, m.length / 8, none⟩ = some (.int .u8 (byteAt m (m.length / 8) : Int)) := H5.cell _ HC.out
         have rf := H5.froz (m.length / 8)
         generalize W.drew = W2 at *
         go_wp2
         have HF := put_close (x := x) H5 Hq.out hq1 hcm HS.out HT.out
         go_roundw
         case rel => exact ⟨k + 1, by omega, by go_num, by rw [HX.out]; exact HF⟩
         case measure => simp [intOf]; omega
      · go_wp2
        go_ret
        have e : k = n := by omega
        subst e
        refine ⟨rfl, ?_⟩
        rw [List.take_of_length_le (by simp [valBits_length])] at Hr
        exact Hr

end Go.Proofs.Ytbhpcpcpccmacaa

namespace Go.Proofs.Ytbhpcpcpccmacaa
open Go.RowKit

/-- A reader, at the head of block b, of the bits l, of which 'at' were read. -/
def Rdr (b : Nat) (l : List Bool) (i : Nat) : HP := HP.ex fun sv => HP.all [HP.pt b #[sv, .int .i64 (l.length : Int), .int .i64 (i : Int)] 129, HP.row 5 1 sv (pk l).length ((pk l).map u8v)]

theorem Rdr.open {w : World} {b : Nat} {l : List Bool} {i : Nat} {R : List HP} (h : Sep w (Rdr b l i :: R)) :
    ∃ sv, Sep w (HP.pt b #[sv, .int .i64 (l.length : Int), .int .i64 (i : Int)] 129 :: HP.row 5 1 sv (pk l).length ((pk l).map u8v) :: R) := by
  obtain ⟨sv, h⟩ := h.ex_elim
  exact ⟨sv, h.all_elim⟩

theorem Rdr.shut {w : World} {b : Nat} {l : List Bool} {i : Nat} {sv : Value} {R : List HP} (h : Sep w (HP.pt b #[sv, .int .i64 (l.length : Int), .int .i64 (i : Int)] 129 :: HP.row 5 1 sv (pk l).length ((pk l).map u8v) :: R)) : Sep w (Rdr b l i :: R) :=
  Sep.ex_intro sv (Sep.all_intro h)

theorem Wr.shut {w : World} {b : Nat} {l : List Bool} {sv : Value} {R : List HP} (h : Sep w (HP.pt b #[sv, .int .i64 (l.length : Int)] 94 :: HP.row 5 1 sv (pk l).length ((pk l).map u8v) :: R)) : Sep w (Wr b l :: R) :=
  Sep.ex_intro sv (Sep.all_intro h)

/-- A new writer: 'var w bits.Writer', '&bits.Writer{}'. -/
theorem Wr.new {w : World} {R : List HP} (h : Sep w R) : Sep (w.alloc (.cells #[.slice none 0 0, .int .i64 0] 94)) (Wr w.heap.size [] :: R) :=
  Wr.shut (l := []) (((h.row_nil 5 1).alloc _ _))

theorem u8v_one (l : List Nat) : ∀ u ∈ l.map u8v, u.oneCell' = true := by
  intro u hu; simp [u8v] at hu; obtain ⟨a, _, rfl⟩ := hu; rfl

set_option maxHeartbeats 400000 in
theorem bytes_ok {b : Nat} {l : List Bool} {R : List HP} {w : World} (hl : l.length ≤ 33554432) (H : Sep w (Wr b l :: R)) :
    Calls Try.prog 71 #[.pointer (some ⟨b, 0, none⟩)] w (Gives fun v w' => Sep w' (HP.row 5 1 v (pk l).length ((pk l).map u8v) :: Wr b l :: R)) := by
  obtain ⟨sv, H⟩ := Wr.open H
  have c0 : w.cell? ⟨b, 0, none⟩ = some sv := H.cell 0 rfl
  have hrd := H.swap.rd
  have h63 : (pk l).length ≤ maxLen := by rw [pk_length]; unfold maxLen; omega
  have hby : (pk l).length * 1 ≤ 140737488355328 := by rw [pk_length]; omega
  go_enter Try.func71, Try.ntmps71
  go_wp2_with ((at_builtin; go_must (refine wpList_append_copy rfl _ (.tmp 8) 33 rfl 5 (.int .u8 0) 1 1 Try.underlying33 info_u8 rfl (by decide) rfl H sv _ _ rfl hrd (u8v_one _) h63 hby ?_); intro a' cap' w' H'))
  go_ret
  refine ⟨_, rfl, ?_⟩
  exact (Wr.shut H'.mid2).swap

set_option maxHeartbeats 400000 in
theorem bytes_nil {w : World} : Calls Try.prog 71 #[.pointer none] w fun e w' => e = .returned (.slice none 0 0) ∧ w = w' := by
  go_enter Try.func71, Try.ntmps71
  go_wp2
  go_ret
  exact ⟨rfl, rfl⟩

set_option maxHeartbeats 400000 in
theorem len_nil {w : World} : Calls Try.prog 93 #[.pointer none] w fun e w' => e = .returned (.int .i64 0) ∧ w = w' := by
  go_enter Try.func93, Try.ntmps93
  go_wp2
  go_ret
  exact ⟨rfl, rfl⟩

set_option maxHeartbeats 400000 in
theorem put_nil (v n : Int) {w : World} : Calls Try.prog 74 #[.pointer none, .int .u64 v, .int .i64 n] w fun e w' => e = .returned (.int .i64 1) ∧ w = w' := by
  go_enter Try.func74, Try.ntmps74
  go_wp2
  go_ret
  exact ⟨rfl, rfl⟩

set_option maxHeartbeats 400000 in
theorem put_neg (v n : Int) (hn : n < 0) (b : Nat) {w : World} : Calls Try.prog 74 #[.pointer (some ⟨b, 0, none⟩), .int .u64 v, .int .i64 n] w fun e w' => e = .returned (.int .i64 2) ∧ w = w' := by
  go_enter Try.func74, Try.ntmps74
  go_wp2
  go_ret
  exact ⟨rfl, rfl⟩

set_option maxHeartbeats 400000 in
theorem put_wide (v n : Int) (hn : 64 < n) (b : Nat) {w : World} : Calls Try.prog 74 #[.pointer (some ⟨b, 0, none⟩), .int .u64 v, .int .i64 n] w fun e w' => e = .returned (.int .i64 2) ∧ w = w' := by
  go_enter Try.func74, Try.ntmps74
  go_wp2
  go_ret
  exact ⟨rfl, rfl⟩

set_option maxHeartbeats 400000 in
theorem put_great (v n : Nat) (hn : n < 64) (hv : ((v : Int) / 2 ^ n != 0) = true) (b : Nat) {w : World} : Calls Try.prog 74 #[.pointer (some ⟨b, 0, none⟩), .int .u64 (v : Int), .int .i64 (n : Int)] w fun e w' => e = .returned (.int .i64 2) ∧ w = w' := by
  go_enter Try.func74, Try.ntmps74
  go_wp2
  all_goals
    go_ret
    exact ⟨rfl, rfl⟩

/-- Put, of whole numbers, whatever fits or not: where it is in range. -/
theorem put_int {v n : Int} {b : Nat} {l : List Bool} {R : List HP} {w : World} (hv0 : 0 ≤ v) (hn0 : 0 ≤ n) (hn : n ≤ 64) (hv : v.toNat < 2 ^ n.toNat) (hl : l.length + n.toNat ≤ 33554432) (H : Sep w (Wr b l :: R)) :
    Calls Try.prog 74 #[.pointer (some ⟨b, 0, none⟩), .int .u64 v, .int .i64 n] w fun e w' => e = .returned (.int .i64 0) ∧ Sep w' (Wr b (l ++ valBits v.toNat n.toNat) :: R) := by
  have h := put_ok (v := v.toNat) (n := n.toNat) (by omega) hv hl H
  rw [Int.toNat_of_nonneg hv0, Int.toNat_of_nonneg hn0] at h
  exact h

end Go.Proofs.Ytbhpcpcpccmacaa

namespace Go.Proofs.Ytbhpcpcpccmacaa
open Go.RowKit

set_option maxHeartbeats 400000 in
theorem nr_range (v : Value) (n : Int) (hn : n < 0 ∨ 33554432 < n) {w : World} :
    Calls Try.prog 89 #[v, .int .i64 n] w fun e w' => e = .returned (.tuple #[.pointer none, .int .i64 2]) ∧ w = w' := by
  rcases hn with hn | hn
  · go_enter Try.func89, Try.ntmps89
    go_wp2
    go_ret2
    exact ⟨rfl, rfl⟩
  · have h0 : ¬ n < 0 := by omega
    go_enter Try.func89, Try.ntmps89
    go_wp2
    go_ret2
    exact ⟨rfl, rfl⟩

set_option maxHeartbeats 400000 in
theorem nr_end (a : Option Addr) (c m n : Nat) (hn : n ≤ 33554432) (hm : m < (n + 7) / 8) {w : World} :
    Calls Try.prog 89 #[.slice a m c, .int .i64 (n : Int)] w fun e w' => e = .returned (.tuple #[.pointer none, .int .i64 4]) ∧ w = w' := by
  have h1 : (m : Int) < ((n : Int) + 7) / 8 := by omega
  go_enter Try.func89, Try.ntmps89
  go_wp2
  go_ret2
  exact ⟨rfl, rfl⟩

set_option maxHeartbeats 400000 in
theorem nr_more (a : Option Addr) (c m n : Nat) (hn : n ≤ 33554432) (hm : (n + 7) / 8 < m) {w : World} :
    Calls Try.prog 89 #[.slice a m c, .int .i64 (n : Int)] w fun e w' => e = .returned (.tuple #[.pointer none, .int .i64 5]) ∧ w = w' := by
  have h1 : ((n : Int) + 7) / 8 < (m : Int) := by omega
  go_enter Try.func89, Try.ntmps89
  go_wp2
  go_ret2
  exact ⟨rfl, rfl⟩

/-- The last byte has a bit that is not asked for. -/
theorem nr_form (a : Addr) (c m n x : Nat) (hn : n ≤ 33554432) (hm : m = (n + 7) / 8) (h8 : n % 8 ≠ 0) {w : World} (g o : Nat) (ha : a = ⟨g, o, none⟩) (hc : w.cell? ⟨g, o + (m - 1), none⟩ = some (.int .u8 (x : Int)))
    (hx : (((x : Int) * 2 ^ (n % 8) % 256) != 0) = true) :
    Calls Try.prog 89 #[.slice (some a) m c, .int .i64 (n : Int)] w fun e w' => e = .returned (.tuple #[.pointer none, .int .i64 3]) ∧ w = w' := by
  subst ha
  have h1 : ((n : Int) + 7) / 8 = (m : Int) := by omega
  have h2 : (((n : Int) % 8) != 0) = true := by rw [bne_iff_ne]; omega
  have h3 : 1 ≤ m := by omega
  have hm2 : m ≤ 4194304 := by omega
  clear h8 hm
  go_enter Try.func89, Try.ntmps89
  go_wp2
  go_ret2
  exact ⟨rfl, rfl⟩

theorem nr_end2 {l : List Bool} {R : List HP} {w' : World} {a' : Option Addr} {cap' : Nat} (H' : Sep w' (HP.row 5 1 (.slice a' ((pk l).length) cap') ((pk l).length) ((pk l).map u8v) :: R)) :
    Gives (fun r w' => ∃ b, r = .tuple #[.pointer (some ⟨b, 0, none⟩), .int .i64 0] ∧ Sep w' (Rdr b l 0 :: R))
      (.returned (.tuple #[.pointer (some ⟨w'.heap.size, 0, none⟩), .int .i64 0])) (w'.alloc (.cells #[.slice a' ((pk l).length) cap', .int .i64 (l.length : Int), .int .i64 0] 129)) := by
  refine ⟨_, rfl, _, rfl, ?_⟩
  exact Rdr.shut (i := 0) (H'.alloc _ _)

set_option maxHeartbeats 400000 in
theorem nr_ok {v : Value} {l : List Bool} {R : List HP} {w : World} (hl : l.length ≤ 33554432) (hrd : RdS w v (pk l).length 1 ((pk l).map u8v)) (H : Sep w R) :
    Calls Try.prog 89 #[v, .int .i64 (l.length : Int)] w (Gives fun r w' => ∃ b, r = .tuple #[.pointer (some ⟨b, 0, none⟩), .int .i64 0] ∧ Sep w' (Rdr b l 0 :: R)) := by
  have hpl := pk_length l
  by_cases h8 : l.length % 8 = 0
  · obtain ⟨a, cap, rfl⟩ := hrd.form
    have h1 : ((l.length : Int) + 7) / 8 = ((pk l).length : Int) := by omega
    have h2 : (((l.length : Int) % 8) != 0) = false := by rw [bne_eq_false_iff_eq]; omega
    have h63 : (pk l).length ≤ maxLen := by rw [hpl]; unfold maxLen; omega
    have hby : ((pk l).length) * 1 ≤ 140737488355328 := by rw [hpl]; omega
    clear hpl h8
    go_enter Try.func89, Try.ntmps89
    go_wp2_with ((at_builtin; go_must (refine wpList_append_copy rfl _ (.tmp 42) 33 rfl 5 (.int .u8 0) 1 1 Try.underlying33 info_u8 rfl (by decide) rfl H (.slice a (pk l).length cap) _ _ rfl hrd (u8v_one _) h63 hby ?_); intro a' cap' w' H'))
    go_ret2
    exact nr_end2 H'
  · have hne : (pk l).length ≠ 0 := by rw [hpl]; omega
    obtain ⟨g, o, cap, rfl⟩ := hrd.open hne
    have h1 : ((l.length : Int) + 7) / 8 = ((pk l).length : Int) := by omega
    have h2 : (((l.length : Int) % 8) != 0) = true := by rw [bne_iff_ne]; omega
    have h63 : (pk l).length ≤ maxLen := by rw [hpl]; unfold maxLen; omega
    have hby : ((pk l).length) * 1 ≤ 140737488355328 := by rw [hpl]; omega
    have hc : w.cell? ⟨g, o + ((pk l).length - 1), none⟩ = some (.int .u8 (byteAt l (l.length / 8) : Int)) := hrd.cell _ (by
      have e : (pk l).length - 1 = l.length / 8 := by omega
      rw [e, pk_full l h8]; simp [pkN, u8v])
    have hx : (((byteAt l (l.length / 8) : Int) * 2 ^ (l.length % 8) % 256) != 0) = false := by
      rw [bne_eq_false_iff_eq]
      have e : ((byteAt l (l.length / 8) : Int) * 2 ^ (l.length % 8) % 256) = ((byteAt l (l.length / 8) * 2 ^ (l.length % 8) % 256 : Nat) : Int) := by rw [Int.natCast_emod, Int.natCast_mul, Int.natCast_pow]; rfl
      rw [e, byteAt_shl l h8]; rfl
    have h3 : 1 ≤ (pk l).length := by omega
    have h4 : (pk l).length ≤ 4194304 := by omega
    clear hpl h8 hne
    go_enter Try.func89, Try.ntmps89
    go_wp2_with ((at_builtin; go_must (refine wpList_append_copy rfl _ (.tmp 42) 33 rfl 5 (.int .u8 0) 1 1 Try.underlying33 info_u8 rfl (by decide) rfl H (.slice (some ⟨g, o, none⟩) (pk l).length cap) _ _ rfl hrd (u8v_one _) h63 hby ?_); intro a' cap' w' H'))
    go_ret2
    exact nr_end2 H'

/-! ## Reading -/

set_option maxHeartbeats 400000 in
theorem get_nil (n : Int) {w : World} : Calls Try.prog 77 #[.pointer none, .int .i64 n] w fun e w' => e = .returned (.tuple #[.int .u64 0, .int .i64 1]) ∧ w = w' := by
  go_enter Try.func77, Try.ntmps77
  go_wp2
  go_ret2
  exact ⟨rfl, rfl⟩

set_option maxHeartbeats 400000 in
theorem get_range (n : Int) (hn : n < 0 ∨ 64 < n) (b : Nat) {w : World} : Calls Try.prog 77 #[.pointer (some ⟨b, 0, none⟩), .int .i64 n] w fun e w' => e = .returned (.tuple #[.int .u64 0, .int .i64 2]) ∧ w = w' := by
  rcases hn with hn | hn
  · go_enter Try.func77, Try.ntmps77
    go_wp2
    go_ret2
    exact ⟨rfl, rfl⟩
  · have h0 : ¬ n < 0 := by omega
    go_enter Try.func77, Try.ntmps77
    go_wp2
    go_ret2
    exact ⟨rfl, rfl⟩

def Drew (v : Value) (w : World) (e : Ending) (w' : World) : Prop := e = .returned v ∧ ∃ n, w' = w.drewN n

set_option maxHeartbeats 400000 in
theorem get_end {n b i : Nat} {l : List Bool} {R : List HP} {w : World} (hn : n ≤ 64) (hi : i ≤ l.length) (_hl : l.length ≤ 33554432) (he : l.length < i + n) (H : Sep w (Rdr b l i :: R)) :
    Calls Try.prog 77 #[.pointer (some ⟨b, 0, none⟩), .int .i64 (n : Int)] w (Drew (.tuple #[.int .u64 0, .int .i64 4]) w) := by
  obtain ⟨sv, H⟩ := Rdr.open H
  have c1 : w.cell? ⟨b, 1, none⟩ = some (.int .i64 (l.length : Int)) := H.cell 1 rfl
  have c2 : w.cell? ⟨b, 2, none⟩ = some (.int .i64 (i : Int)) := H.cell 2 rfl
  have h1 : (l.length : Int) - (i : Int) < (n : Int) := by omega
  clear H
  go_enter Try.func77, Try.ntmps77
  go_wp2
  (refine wp_region_quiet_lit (by kernel_rfl) (by kernel_rfl) ?_; (repeat (first | go_big_quiet_skip | (go_big_quiet_want; go_big_quiet_op; (try go_bits); first | go_big_quiet_on | go_big_quiet_call (fail)))); refine wpQuiet_nil ?_; intro _ hw'; obtain ⟨nq, hw''⟩ := hw'; subst hw'')
  go_wp2
  go_ret2
  exact ⟨rfl, _, rfl⟩

theorem get_step (l : List Bool) (j V : Nat) (hV : V < 2 ^ 63) : bits BinOp.or IntKind.u64 (IntKind.u64.wrap ((V : Int) * 2)) (IntKind.u64.wrap (bits BinOp.and IntKind.u8 ((byteAt l (j / 8) : Int) / 2 ^ (7 - j % 8)) 1)) = ((2 * V + bit l j : Nat) : Int) := by
  have h63 : (2 : Nat) ^ 63 = 9223372036854775808 := by decide +kernel
  have hb := bit_le l j
  have e1 : (byteAt l (j / 8) : Int) / 2 ^ (7 - j % 8) = ((byteAt l (j / 8) / 2 ^ (7 - j % 8) : Nat) : Int) := by simp
  have e2 : bits BinOp.and IntKind.u8 ((byteAt l (j / 8) : Int) / 2 ^ (7 - j % 8)) 1 = (bit l j : Int) := by
    have hlt := byteAt_lt l (j / 8)
    have hle : byteAt l (j / 8) / 2 ^ (7 - j % 8) ≤ byteAt l (j / 8) := Nat.div_le_self _ _
    rw [e1]
    have h := u8_and_nat (byteAt l (j / 8) / 2 ^ (7 - j % 8)) 1 (by omega) (by omega)
    rw [Nat.and_one_is_mod, byteAt_bit] at h
    exact h
  have e3 : (V : Int) * 2 = ((V * 2 : Nat) : Int) := by simp
  rw [e2, e3, IntWalk.u64_in _ (by omega), IntWalk.u64_in _ (by omega), bits_or_u64_nat _ _ (by omega) (by omega)]
  have h := or_add (V * 2) (bit l j) 0 (by omega) hb
  rw [Nat.pow_zero, Nat.mul_one] at h
  rw [h, Nat.mul_comm]

set_option maxHeartbeats 1000000 in
theorem get_ok {n b i : Nat} {l : List Bool} {R : List HP} {w : World} (hn : n ≤ 64) (hi : i + n ≤ l.length) (hl : l.length ≤ 33554432) (H : Sep w (Rdr b l i :: R)) :
    Calls Try.prog 77 #[.pointer (some ⟨b, 0, none⟩), .int .i64 (n : Int)] w fun e w' => e = .returned (.tuple #[.int .u64 (ofBits ((l.drop i).take n) : Int), .int .i64 0]) ∧ Sep w' (Rdr b l (i + n) :: R) := by
  obtain ⟨sv, H⟩ := Rdr.open H
  have c1 : w.cell? ⟨b, 1, none⟩ = some (.int .i64 (l.length : Int)) := H.cell 1 rfl
  have c2 : w.cell? ⟨b, 2, none⟩ = some (.int .i64 (i : Int)) := H.cell 2 rfl
  have h1 : ¬ (l.length : Int) - (i : Int) < (n : Int) := by omega
  go_enter Try.func77, Try.ntmps77
  go_wp2
  (refine wp_region_quiet_lit (by kernel_rfl) (by kernel_rfl) ?_; (repeat (first | go_big_quiet_skip | (go_big_quiet_want; go_big_quiet_op; (try go_bits); first | go_big_quiet_on | go_big_quiet_call (fail)))); refine wpQuiet_nil ?_; intro _ hw'; obtain ⟨nq, hw''⟩ := hw'; subst hw'')
  go_wp2
  replace H := H.drewN nq
  generalize w.drewN nq = W at *
  clear c1 c2 h1
  go_loopw [6, 30] (fun v i' wr => ∃ k : Nat, k ≤ n ∧ i' = .int .i64 k ∧ v = .int .u64 (ofBits ((l.drop i).take k) : Int) ∧ Sep wr (Rdr b l (i + k) :: R)) (fun _ i' _ => n - (intOf i').toNat)
  case atStart => exact ⟨0, by omega, rfl, rfl, Rdr.shut H⟩
  case round =>
    clear H
    obtain ⟨k, hk, rfl, rfl, Hr⟩ := hrel
    by_cases hlt : k < n
    · obtain ⟨j, hj⟩ : ∃ j, j = i + k := ⟨_, rfl⟩
      rw [← hj] at Hr
      have hjl : j < l.length := by omega
      have hstep : ofBits ((l.drop i).take (k + 1)) = 2 * ofBits ((l.drop i).take k) + bit l j := by
        have hk2 : k < (l.drop i).length := by simp; omega
        rw [List.take_succ_eq_append_getElem hk2, ofBits_snoc]
        congr 1
        simp [bit, ← hj, List.getD]
        rw [List.getElem?_eq_getElem hjl]; rfl
      have hlt2 : ofBits ((l.drop i).take k) < 2 ^ 63 := Nat.lt_of_lt_of_le (ofBits_lt _) (Nat.pow_le_pow_right (by decide) (by simp; omega))
      generalize ofBits ((l.drop i).take k) = V at hstep hlt2 ⊢
      have hv := get_step l j V hlt2
      rw [← hstep] at hv
      obtain ⟨V', hV'⟩ : ∃ V', V' = ofBits ((l.drop i).take (k + 1)) := ⟨_, rfl⟩
      rw [← hV'] at hv
      have HV := Lib.hid hV'; clear hV'
      clear hstep hlt2
      have HJ := Lib.hid hj; clear hj
      obtain ⟨sv, Hr⟩ := Rdr.open Hr
      have hne : (pk l).length ≠ 0 := by rw [pk_length]; omega
      obtain ⟨g, cap, cur, rfl, _, _, _, ht, H4⟩ := Hr.swap.row_open hne
      have hpk : (pk l)[j / 8]? = some (byteAt l (j / 8)) := pkN_getElem? _ _ _ (by omega)
      have r0 : wr.cell? ⟨g, j / 8, none⟩ = some (.int .u8 (byteAt l (j / 8) : Int)) := H4.cell _ (take_get (by simpa using ht) (by simp [hpk, u8v]))
      have c0 : wr.cell? ⟨b, 0, none⟩ = some (.slice (some ⟨g, 0, none⟩) (pk l).length cap) := Hr.cell 0 rfl
      have c2 : wr.cell? ⟨b, 2, none⟩ = some (.int .i64 (j : Int)) := Hr.cell 2 rfl
      have hx1 : (j : Int) / 8 < ((pk l).length : Int) := by rw [pk_length]; omega
      have hx0 : (0 : Int) ≤ (j : Int) / 8 := by omega
      clear H4 ht hne hpk
      go_wp2
      (refine wp_region_quiet_lit (by kernel_rfl) (by kernel_rfl) ?_; (repeat (first | go_big_quiet_skip | (go_big_quiet_want; go_big_quiet_op; (try go_bits); first | go_big_quiet_on | go_big_quiet_call (fail)))); refine wpQuiet_nil ?_; intro _ hw'; obtain ⟨nq, hw''⟩ := hw'; subst hw'')
      replace Hr := Hr.drewN nq
      have c2 : (wr.drewN nq).cell? ⟨b, 2, none⟩ = some (.int .i64 (j : Int)) := Hr.cell 2 rfl
      have f2 := Hr.froz 2
      generalize wr.drewN nq = W at *
      go_wp2
      have HF := Hr.set 2 (.int .i64 ((j : Int) + 1))
      go_roundw
      case rel => exact ⟨k + 1, by omega, by go_num, by rw [HV.out], by
        have e : i + (k + 1) = j + 1 := by have := HJ.out; omega
        rw [e]
        exact Rdr.shut (i := j + 1) HF⟩
      case measure => simp [intOf]; omega
    · go_wp2
      go_ret2
      have e : k = n := by omega
      subst e
      exact ⟨rfl, Hr⟩

end Go.Proofs.Ytbhpcpcpccmacaa

namespace Go.Proofs.Ytbhpcpcpccmacaa
open Go.RowKit

/-- Get, of whole numbers. -/
theorem get_int {n : Int} {b i : Nat} {l : List Bool} {R : List HP} {w : World} (hn0 : 0 ≤ n) (hn : n ≤ 64) (hi : i + n.toNat ≤ l.length) (hl : l.length ≤ 33554432) (H : Sep w (Rdr b l i :: R)) :
    Calls Try.prog 77 #[.pointer (some ⟨b, 0, none⟩), .int .i64 n] w fun e w' => e = .returned (.tuple #[.int .u64 (ofBits ((l.drop i).take n.toNat) : Int), .int .i64 0]) ∧ Sep w' (Rdr b l (i + n.toNat) :: R) := by
  have h := get_ok (n := n.toNat) (by omega) hi hl H
  rw [Int.toNat_of_nonneg hn0] at h
  exact h

theorem get_end_int {n : Int} {b i : Nat} {l : List Bool} {R : List HP} {w : World} (hn0 : 0 ≤ n) (hn : n ≤ 64) (hi : i ≤ l.length) (hl : l.length ≤ 33554432) (he : l.length < i + n.toNat) (H : Sep w (Rdr b l i :: R)) :
    Calls Try.prog 77 #[.pointer (some ⟨b, 0, none⟩), .int .i64 n] w (Drew (.tuple #[.int .u64 0, .int .i64 4]) w) := by
  have h := get_end (n := n.toNat) (by omega) hi hl he H
  rw [Int.toNat_of_nonneg hn0] at h
  exact h

theorem ofBits_one (l : List Bool) (i : Nat) (h : i < l.length) : ofBits ((l.drop i).take 1) = bit l i := by
  have : (l.drop i).take 1 = [l[i]] := by
    rw [List.take_one, List.head?_drop, List.getElem?_eq_getElem h]; rfl
  rw [this]
  simp [ofBits, bit, List.getD, List.getElem?_eq_getElem h]

set_option maxHeartbeats 400000 in
theorem rbit_ok {b i : Nat} {l : List Bool} {R : List HP} {w : World} (hi : i < l.length) (hl : l.length ≤ 33554432) (H : Sep w (Rdr b l i :: R)) :
    Calls Try.prog 94 #[.pointer (some ⟨b, 0, none⟩)] w fun e w' => e = .returned (.tuple #[.bool (l.getD i false), .int .i64 0]) ∧ Sep w' (Rdr b l (i + 1) :: R) := by
  have hb := ofBits_one l i hi
  obtain ⟨x, hx⟩ : ∃ x, x = l.getD i false := ⟨_, rfl⟩
  rw [← hx]
  have hbx : bit l i = x.toNat := by rw [hx]; rfl
  have HX := Lib.hid (hb.trans hbx)
  clear hb hbx hx
  go_enter Try.func94, Try.ntmps94
  go_wp2_with fail
  refine (get_int (by omega) (by omega) (show i + 1 ≤ l.length from hi) hl H).mono ?_
  rintro e w' ⟨rfl, H'⟩
  have e1 : (1 : Int).toNat = 1 := rfl
  rw [e1] at H'
  have hv : ((ofBits ((l.drop i).take (1 : Int).toNat) : Int) == 1) = x := by
    rw [e1, HX.out]; cases x <;> rfl
  generalize ofBits ((l.drop i).take (1 : Int).toNat) = V at *
  have HV := Lib.hid hv; clear hv
  go_wp2_with fail
  go_ret2
  rw [HV.out]
  exact ⟨rfl, H'⟩

set_option maxHeartbeats 400000 in
theorem rbit_end {b i : Nat} {l : List Bool} {R : List HP} {w : World} (hi : i = l.length) (hl : l.length ≤ 33554432) (H : Sep w (Rdr b l i :: R)) :
    Calls Try.prog 94 #[.pointer (some ⟨b, 0, none⟩)] w (Drew (.tuple #[.bool false, .int .i64 4]) w) := by
  go_enter Try.func94, Try.ntmps94
  go_wp2_with fail
  refine (get_end_int (by omega) (by omega) (by omega) hl (by have : (1 : Int).toNat = 1 := rfl; omega) H).mono ?_
  rintro e w' ⟨rfl, n, rfl⟩
  go_wp2_with fail
  go_ret2
  exact ⟨rfl, n, rfl⟩

set_option maxHeartbeats 400000 in
theorem rbit_nil {w : World} : Calls Try.prog 94 #[.pointer none] w fun e w' => e = .returned (.tuple #[.bool false, .int .i64 1]) ∧ w = w' := by
  go_enter Try.func94, Try.ntmps94
  go_wp2_with fail
  refine (get_nil _).mono ?_
  rintro e w' ⟨rfl, rfl⟩
  go_wp2_with fail
  go_ret2
  exact ⟨rfl, rfl⟩

set_option maxHeartbeats 400000 in
theorem left_ok {b i : Nat} {l : List Bool} {R : List HP} {w : World} (hi : i ≤ l.length) (hl : l.length ≤ 33554432) (H : Sep w (Rdr b l i :: R)) :
    Calls Try.prog 99 #[.pointer (some ⟨b, 0, none⟩)] w (Drew (.int .i64 ((l.length : Int) - (i : Int))) w) := by
  obtain ⟨sv, H⟩ := Rdr.open H
  have c1 : w.cell? ⟨b, 1, none⟩ = some (.int .i64 (l.length : Int)) := H.cell 1 rfl
  have c2 : w.cell? ⟨b, 2, none⟩ = some (.int .i64 (i : Int)) := H.cell 2 rfl
  clear H
  go_enter Try.func99, Try.ntmps99
  go_wp2
  (refine wp_region_quiet_lit (by kernel_rfl) (by kernel_rfl) ?_; (repeat (first | go_big_quiet_skip | (go_big_quiet_want; go_big_quiet_op; (try go_bits); first | go_big_quiet_on | go_big_quiet_call (fail)))); refine wpQuiet_nil ?_; intro _ hw'; obtain ⟨nq, hw''⟩ := hw'; subst hw'')
  go_wp2
  go_ret
  exact ⟨rfl, _, rfl⟩

set_option maxHeartbeats 400000 in
theorem left_nil {w : World} : Calls Try.prog 99 #[.pointer none] w fun e w' => e = .returned (.int .i64 0) ∧ w = w' := by
  go_enter Try.func99, Try.ntmps99
  go_wp2
  go_ret
  exact ⟨rfl, rfl⟩

end Go.Proofs.Ytbhpcpcpccmacaa
