/- coder: Finish. -/
import Derived.Test.YtglinpclcmmnbaaCod4
import Derived.Deep.RegionLaw
namespace Go.Proofs.Ytglinpclcmmnbaa
open Go.RowKit Go.Shelf

theorem rd_pt {w : World} {b n : Nat} {c : Array Value} {T : TypeId} {F : List HP} (hn : c.size = n) (H : Sep w (HP.pt b c T :: F)) : RdS w (.slice (some ⟨b, 0, none⟩) n n) n 1 c.toList :=
  ⟨by simp [hn], .inr ⟨_, _, rfl, fun j u hu => by
    rw [addr_add, Nat.zero_add]
    exact H.cell j (by rw [← Array.getElem?_toList]; exact hu)⟩⟩

/-- Is the next number of n bytes in the interval? -/
def OkN (K L R n : Nat) : Prop := L % 256 ^ (K - n) = 0 ∨ 256 ^ (K - n) - L % 256 ^ (K - n) < R
instance (K L R n : Nat) : Decidable (OkN K L R n) := by unfold OkN; exact inferInstance
/-- The next number of n bytes. -/
def upN (K L n : Nat) : Nat := if L % 256 ^ (K - n) = 0 then L / 256 ^ (K - n) else L / 256 ^ (K - n) + 1
/-- An interval's bytes. -/
def IsCode (K L R : Nat) (c : List Nat) : Prop := ∃ n, n ≤ K ∧ (∀ j, j < n → ¬ OkN K L R j) ∧ OkN K L R n ∧ c = digs n (upN K L n)
theorem OkN_last (K L R : Nat) : OkN K L R K := .inl (by rw [Nat.sub_self, Nat.pow_zero, Nat.mod_one])
theorem IsCode.uniq {K L R : Nat} {c d : List Nat} (h1 : IsCode K L R c) (h2 : IsCode K L R d) : c = d := by
  obtain ⟨n, a1, a2, a3, rfl⟩ := h1
  obtain ⟨m, b1, b2, b3, rfl⟩ := h2
  rcases Nat.lt_trichotomy n m with h | rfl | h
  · exact absurd a3 (b2 n h)
  · rfl
  · exact absurd b3 (a2 m h)
theorem upN_spec {K L R n : Nat} (h : OkN K L R n) (hR : 0 < R) : L ≤ upN K L n * 256 ^ (K - n) ∧ upN K L n * 256 ^ (K - n) < L + R := by
  have hp : 0 < 256 ^ (K - n) := Nat.pow_pos (by decide)
  have hd := Nat.div_add_mod L (256 ^ (K - n))
  have hm := Nat.mod_lt L hp
  unfold upN
  rcases h with h | h
  · rw [if_pos h]
    rw [Nat.mul_comm]
    omega
  · by_cases h0 : L % 256 ^ (K - n) = 0
    · rw [if_pos h0, Nat.mul_comm]; omega
    · rw [if_neg h0, Nat.add_mul, Nat.one_mul, Nat.mul_comm]
      omega
theorem upN_lt {K L R n : Nat} (hn : n ≤ K) (h : OkN K L R n) (hR : 0 < R) (hLR : L + R ≤ 256 ^ K) : upN K L n < 256 ^ n := by
  have h1 := (upN_spec h hR).2
  have h2 : 256 ^ K = 256 ^ n * 256 ^ (K - n) := by rw [← Nat.pow_add]; congr 1; omega
  rw [h2] at hLR
  have hp : 0 < 256 ^ (K - n) := Nat.pow_pos (by decide)
  exact (Nat.mul_lt_mul_right hp).1 (by omega)
theorem digs_four (k L : Nat) : digs (k + 4) L = digs k (L / 4294967296) ++ [L % 4294967296 / 16777216 % 256, L % 4294967296 / 65536 % 256, L % 4294967296 / 256 % 256, L % 4294967296 % 256] := by
  rw [digs_add k 4 L]
  congr 1
  rw [show (digs 4 L) = digs 4 (L % 256 ^ 4) from (digs_mod 4 L).symm]
  generalize L % 256 ^ 4 = x
  simp only [digs, List.nil_append, List.cons_append, Nat.div_div_eq_div_mul]
theorem upOk_iff {K L R n m : Nat} {b : Bool} (hn : n ≤ K) (h : UpOk ((digs K L).drop n) R m b) : (b = true ↔ OkN K L R n) ∧ (b = true → (0 < m ↔ ¬ L % 256 ^ (K - n) = 0)) := by
  rw [digs_drop hn] at h
  unfold UpOk at h
  rw [valD_digs, digs_length] at h
  exact h
theorem enc_nil {v i : Value} {w : World} (ti : ∃ y, i = .int .i64 y) (tv : ∃ a, v = .pointer a) : Calls Try.prog 38 #[.pointer none, v, i] w fun e w' => e = .returned (.int .i64 1) ∧ w = w' := by
  obtain ⟨y, rfl⟩ := ti
  obtain ⟨a, rfl⟩ := tv
  go_enter Try.func38, Try.ntmps38
  go_wp2_with fail
  go_ret
  exact ⟨rfl, rfl⟩
theorem finish_nil {w : World} : Calls Try.prog 42 #[.pointer none] w fun e w' => e = .returned (.slice none 0 0) ∧ w = w' := by
  go_enter Try.func42, Try.ntmps42
  go_wp2_with fail
  go_ret
  exact ⟨rfl, rfl⟩

set_option maxRecDepth 100000 in
set_option maxHeartbeats 4000000 in
theorem finish_calls {q : Nat} {x : Nat × Nat × Nat} {F : List HP} {w : World} (hI : IvI x) (hk : x.1 ≤ 1000) (H : Sep w (EncI q x :: F)) :
    Calls Try.prog 42 #[.pointer (some ⟨q, 0, none⟩)] w (Gives fun r w' => ∃ c, IsCode (x.1 + 4) x.2.1 x.2.2 c ∧ Sep w' (HP.row 5 1 r c.length (c.map bv) :: EncI q x :: F)) := by
  obtain ⟨k, L, R⟩ := x
  change Sep w (Enc q k L R :: F) at H
  have hI : Iv k L R := hI
  obtain ⟨a, c, H0⟩ := Enc.open H
  obtain ⟨i1, i2, i3⟩ := hI
  have hk : k ≤ 1000 := hk
  have hdl : (digs k (L / 4294967296)).length = k := digs_length _ _
  have c0 := H0.cell 0 rfl
  have c1 := H0.cell 1 rfl
  have h4 := digs_four k L
  have HSH : Hid (∀ (F : List HP) w', Sep w' (HP.pt q #[.slice a k c, .int .u64 ((L % 4294967296 : Nat) : Int), .int .u64 (R : Int)] 86 :: HP.row 5 1 (.slice a k c) k ((digs k (L / 4294967296)).map bv) :: F) → Sep w' (Enc q k L R :: F)) := Lib.hid fun F w' h => Enc.shut h
  have HCL : Hid (∀ {F : List HP} (w' : World), Reads F (.slice a k c) k 1 ((digs k (L / 4294967296)).map bv) → Sep w' F → Calls Try.prog 59 #[.slice a k c] w' (Gives fun r w' => Sep w' (HP.row 5 1 r k ((digs k (L / 4294967296)).map bv) :: F))) := Lib.hid fun w' h1 h2 => by
    have := bclone_calls (l := digs k (L / 4294967296)) (by rw [hdl]; omega) (by rw [hdl]; exact h1) h2
    rw [hdl] at this
    exact this
  have hlo : L % 4294967296 < 4294967296 := by omega
  clear H hdl
  generalize hdd : digs k (L / 4294967296) = dd at *
  generalize L % 4294967296 = lo at *
  have wr : ∀ x : Nat, IntKind.u8.wrap (x : Int) = ((x % 256 : Nat) : Int) := fun x => by
    rw [IntKind.wrap_u8]
    omega
  have e0 : IntKind.u8.wrap ((lo : Int) / 16777216) = ((lo / 16777216 % 256 : Nat) : Int) := wr (lo / 16777216)
  have e1 : IntKind.u8.wrap ((lo : Int) / 65536) = ((lo / 65536 % 256 : Nat) : Int) := wr (lo / 65536)
  have e2 : IntKind.u8.wrap ((lo : Int) / 256) = ((lo / 256 % 256 : Nat) : Int) := wr (lo / 256)
  have e3 : IntKind.u8.wrap (lo : Int) = ((lo % 256 : Nat) : Int) := wr lo
  generalize lo / 16777216 % 256 = y0 at *
  generalize lo / 65536 % 256 = y1 at *
  generalize lo / 256 % 256 = y2 at *
  generalize lo % 256 = y3 at *
  have H4 := Lib.hid h4
  clear h4 wr hdd
  have hl1 : k + 4 ≤ maxLen := by unfold maxLen; omega
  have hl2 : (k + 4) * 1 ≤ 140737488355328 := by omega
  have hone : ∀ u ∈ [Value.int .u8 (y0 : Int), .int .u8 (y1 : Int), .int .u8 (y2 : Int), .int .u8 (y3 : Int)], u.oneCell' = true := by
    intro u hu; simp only [List.mem_cons, List.not_mem_nil, or_false] at hu; rcases hu with rfl | rfl | rfl | rfl <;> rfl
  have HB := H0.drew.alloc #[.int .u8 (y0 : Int), .int .u8 (y1 : Int), .int .u8 (y2 : Int), .int .u8 (y3 : Int)] 5
  have q0 := HB.tail.cell 0 rfl
  have q1 := HB.tail.cell 1 rfl
  go_enter Try.func42, Try.ntmps42
  go_wp2_with fail
  go_region_held3 (fun w' => w'.cell? ⟨q, 0, none⟩ = some (.slice a k c) ∧ w'.cell? ⟨q, 1, none⟩ = some (.int .u64 (lo : Int))) (first | exact ⟨c0, c1⟩ | exact ⟨q0, q1⟩ | exact ⟨H5.tail.cell 0 rfl, H5.tail.cell 1 rfl⟩ | exact ⟨H5.tail.tail.cell 0 rfl, H5.tail.tail.cell 1 rfl⟩ | exact ⟨(H5.alloc _ _).tail.tail.cell 0 rfl, (H5.alloc _ _).tail.tail.cell 1 rfl⟩ | exact ⟨H7.tail.tail.cell 0 rfl, H7.tail.tail.cell 1 rfl⟩) (first | (go_at_call 59; (first | refine (HCL.out _ (Reads.row.cons) H0.drew).mono ?_ | refine (HCL.out _ (Reads.row.cons.cons) HB).mono ?_); rintro e w5 ⟨r, rfl, H5⟩; obtain ⟨ra, rc, rfl⟩ := H5.row_form) | (refine step_append_src rfl (.tmp 14) (.tmp 38) 61 rfl 5 (.int .u8 0) 1 1 Try.underlying61 info_byte rfl (by decide) (.slice ra k rc) k _ rfl (H5.alloc _ 5).swap (.slice (some ⟨w5.heap.size, 0, none⟩) 4 4) 4 [.int .u8 (y0 : Int), .int .u8 (y1 : Int), .int .u8 (y2 : Int), .int .u8 (y3 : Int)] rfl (rd_pt rfl (H5.alloc _ 5)) hone hl1 hl2 ?_; intro va vc w7 H7) | (refine step_append_src rfl (.tmp 14) (.tmp 38) 61 rfl 5 (.int .u8 0) 1 1 Try.underlying61 info_byte rfl (by decide) (.slice ra k rc) k _ rfl H5 (.slice (some ⟨w.heap.size, 0, none⟩) 4 4) 4 [.int .u8 (y0 : Int), .int .u8 (y1 : Int), .int .u8 (y2 : Int), .int .u8 (y3 : Int)] rfl (rd_pt rfl H5.tail) hone hl1 hl2 ?_; intro va vc w7 H7))
  all_goals (
    have hdg : (dd.map bv ++ [.int .u8 (y0 : Int), .int .u8 (y1 : Int), .int .u8 (y2 : Int), .int .u8 (y3 : Int)]) = (digs (k + 4) L).map bv := by rw [H4.out]; simp [bv]
    rw [hdg] at H7
    have H8 := (HSH.out _ _ H7.swap.tail.mid2).swap
    clear H7 hdg H0 HB q0 q1 c0 c1
    obtain ⟨g, cap, _, hsv, hcap, -⟩ := H8.row_open (by omega)
    simp only [Value.slice.injEq] at hsv
    obtain ⟨rfl, -, rfl⟩ := hsv
    generalize hN : (Value.slice (some _) 4 4) = sN
    clear hN
    have hdl : (digs (k + 4) L).length = k + 4 := digs_length _ _
    have HUP : Hid (∀ w' n, n ≤ k + 4 → Sep w' (HP.row 5 1 (.slice (some ⟨g, 0, none⟩) (k + 4) vc) (k + 4) ((digs (k + 4) L).map bv) :: Enc q k L R :: F) → Calls Try.prog 60 #[.slice (some ⟨g, 0, none⟩) (k + 4) vc, .int .i64 (n : Int), .int .u64 (R : Int)] w' fun e w'' => w' = w'' ∧ UpPost ((digs (k + 4) L).drop n) R e) := Lib.hid fun w' n hn h => by
      have := up_calls (l := digs (k + 4) L) (R := R) (digs_lt _ _) (by rw [hdl]; exact hn) (by rw [hdl]; exact hcap) (by rw [hdl]; omega) i2 (by rw [hdl]; exact h.rd)
      rw [hdl] at this
      exact this
    have HRD : Hid (∀ n, n ≤ k + 4 → Reads (HP.row 5 1 (.slice (some ⟨g, 0, none⟩) (k + 4) vc) (k + 4) ((digs (k + 4) L).map bv) :: Enc q k L R :: F) (.slice (some ⟨g, 0, none⟩) n vc) n 1 ((digs n (L / 256 ^ (k + 4 - n))).map bv)) := Lib.hid fun n hn w' hw => by
      have := hw.rd.take hn
      rw [← List.map_take, digs_take hn] at this
      exact this
    go_wp2_with fail
    go_loopg [43] (k + 5) (fun gk j wr => ∃ n : Nat, Hid (n ≤ k + 4 ∧ gk = k + 5 - n ∧ ∀ i, i < n → ¬ OkN (k + 4) L R i) ∧ j = .int .i64 (n : Int) ∧ Sep wr (HP.row 5 1 (.slice (some ⟨g, 0, none⟩) (k + 4) vc) (k + 4) ((digs (k + 4) L).map bv) :: Enc q k L R :: F))
    case atStart => exact ⟨0, Lib.hid ⟨by omega, rfl, fun i hi => absurd hi (by omega)⟩, rfl, H8⟩
    case round =>
      clear H8
      obtain ⟨n, hq, rfl, Hr⟩ := hrel
      obtain ⟨q1, q2, q3⟩ := hq.out
      clear hq
      have HQ := Lib.hid q3
      clear q3
      have hlt : (n : Int) < (k : Int) + 4 + 1 := by omega
      have hlt5 : (n : Int) < (k : Int) + 5 := by omega
      have hn4 : (n : Int) ≤ (k : Int) + 4 := by omega
      obtain ⟨a', c', He⟩ := Enc.open Hr.swap
      have d2 := He.cell 2 rfl
      go_wp2_with fail
      refine (HUP.out _ n q1 Hr).mono ?_
      rintro e w'' ⟨rfl, m, b, rfl, hU⟩
      obtain ⟨u1, u2⟩ := upOk_iff q1 hU
      clear hU
      cases b with
      | false =>
        have hno : ¬ OkN (k + 4) L R n := fun h => by have := u1.2 h; cases this
        have hnk : n ≠ k + 4 := fun h => hno (by rw [h]; exact OkN_last _ _ _)
        have HNO := Lib.hid hno
        clear u1 u2 hno
        go_wp2_with fail
        go_roundg (k + 5 - (n + 1))
        case rel => exact ⟨n + 1, Lib.hid ⟨by omega, rfl, fun i hi => by
          rcases Nat.lt_or_ge i n with h | h
          · exact HQ.out i h
          · obtain rfl : i = n := by omega
            exact HNO.out⟩, by go_num, Hr⟩
        case measure => omega
      | true =>
        have hok := Lib.hid (u1.1 rfl)
        have hmm := Lib.hid (u2 rfl)
        clear u1 u2 d2 He
        have hcn : (n : Int) ≤ (vc : Int) := by omega
        have hcn2 : n ≤ vc := by omega
        go_wp2_with fail
        refine (bclone_calls (l := digs n (L / 256 ^ (k + 4 - n))) (by rw [digs_length]; omega) (by rw [digs_length]; exact HRD.out n q1) Hr).mono ?_
        rintro e W ⟨r, rfl, HW⟩
        rw [digs_length] at HW
        obtain ⟨ra, rc, rfl⟩ := HW.row_form
        clear Hr
        have HA := HW.alloc #[.slice ra n rc, .int .u64 0, .int .u64 0] 86
        have g0 := HA.cell 0 rfl
        by_cases hm : m = 0
        · subst hm
          have hx : L % 256 ^ (k + 4 - n) = 0 := Decidable.not_not.1 fun h => absurd (hmm.out.2 h) (by decide)
          have hcode : IsCode (k + 4) L R (digs n (L / 256 ^ (k + 4 - n))) := ⟨n, q1, HQ.out, hok.out, by unfold upN; rw [if_pos hx]⟩
          have HCO := Lib.hid hcode
          clear hx hcode
          go_wp2_with fail
          go_ret
          refine ⟨_, rfl, _, HCO.out, ?_⟩
          rw [digs_length]
          exact HA.tail.swap.tail
        · have hx : ¬ L % 256 ^ (k + 4 - n) = 0 := hmm.out.1 (by omega)
          have hcode : IsCode (k + 4) L R (digs n (L / 256 ^ (k + 4 - n) + 1)) := ⟨n, q1, HQ.out, hok.out, by unfold upN; rw [if_neg hx]⟩
          have hup := upN_lt q1 hok.out (by omega) i3
          have hup2 : L / 256 ^ (k + 4 - n) + 1 < 256 ^ n := by
            unfold upN at hup
            rw [if_neg hx] at hup
            exact hup
          have HCO := Lib.hid hcode
          have hm0 : 0 < m := by omega
          have CA := carry_calls hup2 (by omega) HA
          clear hx hcode hup hup2
          go_wp2_with fail
          refine CA.mono ?_
          rintro _ W2 ⟨⟨u, rfl⟩, HZ⟩
          have z0 := HZ.cell 0 rfl
          go_wp2_with fail
          go_ret
          refine ⟨_, rfl, _, HCO.out, ?_⟩
          rw [digs_length]
          exact HZ.tail.swap.tail)

end Go.Proofs.Ytglinpclcmmnbaa
