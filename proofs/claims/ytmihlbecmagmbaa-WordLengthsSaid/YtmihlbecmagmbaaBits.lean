import Derived.Test.YtmihlbecmagmbaaProg
import Derived.Test.YtmihlbecmagmbaaSep
import Derived.Test.YtmihlbecmagmbaaSepLaws
import Derived.Test.YtmihlbecmagmbaaPlain
import Derived.WalkKit
import Derived.WalkSpells
import Derived.WalkLawsBesides
import Derived.StillTailTactics
import Derived.BigQuiet
import Derived.Lib.Hide
import Derived.Deep.DeepFit
import Derived.Deep.DeepCutAuto
namespace Go.Proofs.Ytmihlbecmagmbaa
open Go.RowKit

/-- A byte as a value. -/
def u8v (x : Nat) : Value := .int .u8 (x : Int)

/-- A writer, at the head of block b, that holds the bits l. -/
def Wr (b : Nat) (l : List Bool) : HP := HP.ex fun sv => HP.all [HP.pt b #[sv, .int .i64 (l.length : Int)] 42, HP.row 5 1 sv (pk l).length ((pk l).map u8v)]

theorem Wr.open {w : World} {b : Nat} {l : List Bool} {R : List HP} (h : Sep w (Wr b l :: R)) :
    ∃ sv, Sep w (HP.pt b #[sv, .int .i64 (l.length : Int)] 42 :: HP.row 5 1 sv (pk l).length ((pk l).map u8v) :: R) := by
  obtain ⟨sv, h⟩ := h.ex_elim
  exact ⟨sv, h.all_elim⟩

set_option maxHeartbeats 400000 in
theorem len_calls {b : Nat} {l : List Bool} {R : List HP} {w : World} (H : Sep w (Wr b l :: R)) :
    Calls Try.prog 24 #[.pointer (some ⟨b, 0, none⟩)] w fun e w' => e = .returned (.int .i64 (l.length : Int)) ∧ w = w' := by
  obtain ⟨sv, H⟩ := Wr.open H
  have c1 := H.cell 1 rfl
  clear H
  go_enter Try.func24, Try.ntmps24
  go_wp2
  go_ret
  exact ⟨rfl, rfl⟩

theorem int_shr {v n : Nat} (h : v < 2 ^ n) : (((v : Int) / 2 ^ n) != 0) = false := by
  have : (v : Int) / 2 ^ n = ((v / 2 ^ n : Nat) : Int) := by simp
  rw [this, Nat.div_eq_of_lt h]; rfl

theorem info_u8 : (Try.prog.info? 5).map (fun i => (i.zero, i.size, i.bytes)) = some (some (.int .u8 0), 1, 1) := by kernel_rfl

/-- The bit that is put, as the walk writes it. -/
theorem put_bit (v n k : Nat) (hv : v < 2 ^ 64) : bits BinOp.and IntKind.u64 ((v : Int) / 2 ^ (n - 1 - k)) 1 = ((v.testBit (n - 1 - k)).toNat : Int) := by
  have e : (v : Int) / 2 ^ (n - 1 - k) = ((v / 2 ^ (n - 1 - k) : Nat) : Int) := by simp
  have hle : v / 2 ^ (n - 1 - k) ≤ v := Nat.div_le_self _ _
  have h64 : (2 : Nat) ^ 64 = 18446744073709551616 := by decide +kernel
  have hb : (v : Int) / 2 ^ (n - 1 - k) ≤ 18446744073709551615 := by rw [e]; omega
  have h0 : 0 ≤ (v : Int) / 2 ^ (n - 1 - k) := by rw [e]; exact Int.natCast_nonneg _
  rw [and_one_u64 _ h0 hb]
  exact testBit_int v _

theorem put_byte (m : List Bool) (x : Bool) : bits BinOp.or IntKind.u8 (byteAt m (m.length / 8) : Int) ((x.toNat : Int) * 2 ^ (7 - m.length % 8) % 256) = (byteAt (m ++ [x]) (m.length / 8) : Int) := by
  have hp : 2 ^ (7 - m.length % 8) ≤ 128 := by
    have : 2 ^ (7 - m.length % 8) ≤ 2 ^ 7 := Nat.pow_le_pow_right (by decide) (by omega)
    simpa using this
  have hx : x.toNat ≤ 1 := Bool.toNat_le x
  have hlt : x.toNat * 2 ^ (7 - m.length % 8) < 256 := by
    have : x.toNat * 2 ^ (7 - m.length % 8) ≤ 1 * 2 ^ (7 - m.length % 8) := Nat.mul_le_mul_right _ hx
    omega
  have e : (x.toNat : Int) * 2 ^ (7 - m.length % 8) % 256 = ((x.toNat * 2 ^ (7 - m.length % 8) : Nat) : Int) := by
    rw [← Nat.mod_eq_of_lt hlt]; simp
  rw [e, ← byteAt_or]
  exact u8_or_nat _ _ (byteAt_lt _ _) hlt

theorem put_close {W : World} {b g q cap : Nat} {cur : Array Value} {m : List Bool} {x : Bool} {R : List HP}
    (H : Sep W (HP.pt g cur 5 :: HP.pt b #[.slice (some ⟨g, 0, none⟩) q cap, .int .i64 (m.length : Int)] 42 :: R))
    (hq : q = m.length / 8 + 1) (h1 : q ≤ cap) (h2 : cap ≤ maxLen) (h3 : cur.size = cap * 1) (ht : cur.toList.take (q * 1) = (pkN m (m.length / 8 + 1)).map u8v) :
    Sep ((W.setCell ⟨g, m.length / 8, none⟩ (.int .u8 (byteAt (m ++ [x]) (m.length / 8) : Int))).setCell ⟨b, 1, none⟩ (.int .i64 ((m.length : Int) + 1))) (Wr b (m ++ [x]) :: R) := by
  have H2 := (H.set (m.length / 8) (.int .u8 (byteAt (m ++ [x]) (m.length / 8) : Int))).swap.set 1 (.int .i64 ((m.length : Int) + 1))
  have e1 : (pk (m ++ [x])).length = q := by rw [pk_length, hq]; simp; omega
  refine Sep.ex_intro (.slice (some ⟨g, 0, none⟩) q cap) (Sep.all_intro ?_)
  rw [e1]
  have e2 : ((m ++ [x]).length : Int) = (m.length : Int) + 1 := by simp
  rw [e2]
  refine Sep.swap (Sep.row_shut (cur := cur.setIfInBounds (m.length / 8) (.int .u8 (byteAt (m ++ [x]) (m.length / 8) : Int))) ?_ h1 h2 (by simpa using h3) ?_)
  · exact H2.swap
  · rw [← pkN_snoc, List.map_set, ← ht]
    simp [Array.toList_setIfInBounds, List.take_set, u8v]

set_option maxRecDepth 100000 in
set_option maxHeartbeats 2000000 in
theorem put_ok {v n : Nat} {b : Nat} {l : List Bool} {R : List HP} {w : World} (hn : n ≤ 64) (hv : v < 2 ^ n) (hl : l.length + n ≤ 33554432) (H : Sep w (Wr b l :: R)) :
    Calls Try.prog 46 #[.pointer (some ⟨b, 0, none⟩), .int .u64 (v : Int), .int .i64 (n : Int)] w fun e w' => e = .returned (.int .i64 0) ∧ Sep w' (Wr b (l ++ valBits v n) :: R) := by
  have hv2 := int_shr hv
  have hv3 : v < 2 ^ 64 := Nat.lt_of_lt_of_le hv (Nat.pow_le_pow_right (by decide) hn)
  have HV := Lib.hid hv3
  clear hv hv3
  have c1 : w.cell? ⟨b, 1, none⟩ = some (.int .i64 (l.length : Int)) := by obtain ⟨sv, H⟩ := Wr.open H; exact H.cell 1 rfl
  have hc : n < 64 ∨ 64 ≤ n := by omega
  rcases hc with hc | hc
  all_goals
    go_enter Try.func46, Try.ntmps46
    go_wp2_with fail
    clear c1 hv2
    go_loopw [39] (fun i wr => ∃ k : Nat, k ≤ n ∧ i = .int .i64 k ∧ Sep wr (Wr b (l ++ (valBits v n).take k) :: R)) (fun i _ => n - (intOf i).toNat)
    case atStart => exact ⟨0, by omega, rfl, by simpa using H⟩
    case round =>
      clear H
      obtain ⟨k, hk, rfl, Hr⟩ := hrel
      by_cases hlt : k < n
      · have hml0 : (l ++ (valBits v n).take k).length = l.length + k := by simp [valBits_length]; omega
        have hnext : l ++ (valBits v n).take (k + 1) = (l ++ (valBits v n).take k) ++ [v.testBit (n - 1 - k)] := by rw [valBits_take v n k hlt, List.append_assoc]
        have hx1 := put_bit v n k HV.out
        generalize v.testBit (n - 1 - k) = x at hx1 hnext
        generalize l ++ (valBits v n).take k = m at Hr hml0 hnext
        have hx2 : (x.toNat : Int) % 256 = (x.toNat : Int) := by cases x <;> rfl
        have ho := put_byte m x
        have hml : m.length + 1 ≤ 33554432 := by omega
        clear hml0
        have hA0 : (0 : Int) ≤ (m.length : Int) / 8 := by omega
        have hA1 : ((m.length : Int) / 8).toNat = m.length / 8 := by omega
        have HX := Lib.hid hnext; clear hnext
        obtain ⟨sv, Hr⟩ := Wr.open Hr
        have c0 : wr.cell? ⟨b, 0, none⟩ = some sv := Hr.cell 0 rfl
        have c1 : wr.cell? ⟨b, 1, none⟩ = some (.int .i64 (m.length : Int)) := Hr.cell 1 rfl
        have f0 := Hr.froz 0
        have f1 := Hr.froz 1
        by_cases h8 : m.length % 8 = 0
        case' pos =>
          have h8' : (((m.length : Int) % 8) == 0) = true := by rw [beq_iff_eq]; omega
          have h63 : (pk m).length + 1 ≤ maxLen := by rw [pk_length]; unfold maxLen; omega
          have hby : ((pk m).length + 1) * 1 ≤ 140737488355328 := by rw [pk_length]; omega
          have hxs : (pk m).map u8v ++ [.int .u8 0] = (pkN m (m.length / 8 + 1)).map u8v := by rw [← pk_whole m h8]; simp [u8v]
          have HXS := Lib.hid hxs; clear hxs
          have Hq := Lib.hid (pk_len_whole m h8)
          clear h8
          go_wp2_with ((at_builtin; go_must (refine wpList_append_one rfl (.tmp 52) (.tmp 53) 40 rfl 5 (.int .u8 0) 1 Try.underlying40 info_u8 rfl sv _ _ (.int .u8 0) rfl rfl Hr.swap rfl h63 hby ?_); intro g cap w2 H2; have d0 := H2.swap.cell 0 rfl; have d1 := H2.swap.cell 1 rfl; have g0 := H2.swap.froz 0; have g1 := H2.swap.froz 1))
          have H3 := H2.swap.set 0 (.slice (some ⟨g, 0, none⟩) ((pk m).length + 1) cap)
          clear Hr c0 c1 f0 f1 d0 d1 g0 g1
          rw [HXS.out] at H3
          generalize w2.setCell ⟨b, 0, none⟩ (.slice (some ⟨g, 0, none⟩) ((pk m).length + 1) cap) = W at H3 ⊢
          generalize (pk m).length + 1 = q at H3 Hq ⊢
        case' neg =>
          have h8' : (((m.length : Int) % 8) == 0) = false := by rw [beq_eq_false_iff_ne]; omega
          have Hq := Lib.hid (pkN_length m (m.length / 8 + 1))
          have hne : (pk m).length ≠ 0 := by rw [pk_length]; omega
          obtain ⟨g, cap, _, rfl, _⟩ := Hr.swap.row_open hne
          have H3 := Hr
          rw [pk_full m h8] at H3
          rw [pk_full m h8] at c0
          go_wp2_with fail
          clear c0 c1 f0 f1 Hr
          generalize (pkN m (m.length / 8 + 1)).length = q at H3 Hq ⊢
          generalize wr = W at *
        all_goals
         have c0 : W.cell? ⟨b, 0, none⟩ = some (.slice (some ⟨g, 0, none⟩) q cap) := H3.cell 0 rfl
         have c1 : W.cell? ⟨b, 1, none⟩ = some (.int .i64 (m.length : Int)) := H3.cell 1 rfl
         have f0 := H3.froz 0
         have f1 := H3.froz 1
         have hq : m.length / 8 < q := by have := Hq.out; omega
         have hq' : (m.length : Int) / 8 < (q : Int) := by omega
         obtain ⟨g', cap', cur, he, hq1, hcm, hcs, ht, H4⟩ := H3.swap.row_open (by omega)
         simp only [Value.slice.injEq, Option.some.injEq, Addr.mk.injEq, and_true, true_and] at he
         obtain ⟨rfl, rfl⟩ := he
         have hu : ((pkN m (m.length / 8 + 1)).map u8v)[m.length / 8]? = some (.int .u8 (byteAt m (m.length / 8) : Int)) := by simp [pkN, u8v]
         have r0 : W.cell? ⟨g, m.length / 8, none⟩ = some (.int .u8 (byteAt m (m.length / 8) : Int)) := H4.cell _ (take_get (by simpa using ht) hu)
         have rf : W.frozen? ⟨g, m.length / 8, none⟩ = false := H4.froz _
         have hbg := H4.ne
         have H5 := H4.drew
         have HT := Lib.hid ht
         have HS := Lib.hid hcs
         have HC := Lib.hid (take_get (by simpa using ht) hu : cur[m.length / 8]? = _)
         clear H3 H4 ht hcs hu
         (refine wp_region_still_tail 22 (by kernel_rfl) (by kernel_rfl) ?_; simp only [List.take_succ_cons, List.take_zero, List.drop_succ_cons, List.drop_zero]; (repeat (refine wpStill_step (fun K hK => ?_); go_simp; (try go_bits); refine hK _ ?_; clear hK K)); try refine wpStill_nil ?_)
         change wpList _ _ _ _ _ (World.drew W)
         have c0 : W.drew.cell? ⟨b, 0, none⟩ = some (.slice (some ⟨g, 0, none⟩) q cap) := H5.swap.cell 0 rfl
         have c1 : W.drew.cell? ⟨b, 1, none⟩ = some (.int .i64 (m.length : Int)) := H5.swap.cell 1 rfl
         have f0 := H5.swap.froz 0
         have f1 := H5.swap.froz 1
         have r0 : W.drew.cell? ⟨g, m.length / 8, none⟩ = some (.int .u8 (byteAt m (m.length / 8) : Int)) := H5.cell _ HC.out
         have rf := H5.froz (m.length / 8)
         generalize W.drew = W2 at *
         go_wp2
         have HF := put_close (x := x) H5 Hq.out hq1 hcm HS.out HT.out
         go_roundw
         case rel => exact ⟨k + 1, by omega, by go_num, by rw [HX.out]; exact HF⟩
         case measure => simp [intOf]; omega
      · go_wp2
        go_ret
        have e : k = n := by omega
        subst e
        refine ⟨rfl, ?_⟩
        rw [List.take_of_length_le (by simp [valBits_length])] at Hr
        exact Hr

end Go.Proofs.Ytmihlbecmagmbaa
