/- residual: Decode. -/
import Derived.Test.YtbhpcpcpccmacaaRes13
import Derived.Test.YtbhpcpcpccmacaaRes10
namespace Go.Proofs.Ytbhpcpcpccmacaa
open Go.RowKit Go.Shelf

theorem resB_cases (xs : List Nat) : resB xs = 1 :: pk (longN (rcls xs).length ++ allBits (rcls xs) ++ rowR xs) ∨ resB xs = 0 :: pk (rowG xs) := by
  unfold resB
  split
  · exact .inl rfl
  · exact .inr rfl
theorem resB_lt (xs : List Nat) : ∀ d ∈ resB xs, d < 256 := by
  intro d hd
  rcases resB_cases xs with h | h
  · rw [h] at hd
    rcases List.mem_cons.1 hd with rfl | hd
    · decide
    · exact pk_lt _ d hd
  · rw [h] at hd
    rcases List.mem_cons.1 hd with rfl | hd
    · decide
    · exact pk_lt _ d hd
theorem resB_zero {xs rest : List Nat} (h : resB xs = 0 :: rest) : pk (rowG xs) = rest := by
  rcases resB_cases xs with h1 | h1
  · rw [h1] at h; simp at h
  · rw [h1] at h; simpa using h
theorem resB_one {n : Nat} {xs rest : List Nat} (hf : Fine xs) (hl : xs.length = n * 3) (h : resB xs = 1 :: rest) : Cnd n rest xs := by
  rcases resB_cases xs with h1 | h1
  · rw [h1] at h; exact ⟨hf, hl, by simpa using h⟩
  · rw [h1] at h; simp at h
theorem rfit_fine {n : Nat} {xs : List Nat} (h : rfitE n xs = 0) : Fine xs := by
  unfold rfitE at h
  split at h
  · cases h
  · split at h
    · assumption
    · cases h
def DPost (n : Nat) (b : List Nat) (F : List HP) (r : Value) (w' : World) : Prop :=
  (∃ out x y, Fine out ∧ out.length = n * 3 ∧ resB out = b ∧ (∀ xs, Fine xs → xs.length = n * 3 → resB xs = b → out = xs) ∧ r = .tuple #[.slice x n y, .int .i64 0] ∧ Sep w' (HP.row 29 3 (.slice x n y) n (out.map uv) :: F)) ∨
  ((∀ xs, Fine xs → xs.length = n * 3 → resB xs ≠ b) ∧ r = .tuple #[.slice none 0 0, .int .i64 3] ∧ Sep w' F)

set_option maxRecDepth 100000 in
theorem rdecode_bad {a : Option Addr} {m cap : Nat} {n : Int} (hn : n < 0 ∨ 4096 < n) {w : World} :
    Calls Try.prog 23 #[.slice a m cap, .int .i64 n] w fun e w' => e = .returned (.tuple #[.slice none 0 0, .int .i64 2]) ∧ w = w' := by
  rcases hn with hn | hn
  · go_enter Try.func23, Try.ntmps23
    go_wp2_with fail
    go_ret2
    exact ⟨rfl, rfl⟩
  · have hn0 : ¬ n < 0 := by omega
    go_enter Try.func23, Try.ntmps23
    go_wp2_with fail
    go_ret2
    exact ⟨rfl, rfl⟩

set_option maxRecDepth 100000 in
set_option maxHeartbeats 8000000 in
theorem rdecode_calls {a : Option Addr} {cap n : Nat} {b : List Nat} {F : List HP} {w : World} (hn : n ≤ 4096) (hcap : b.length ≤ cap) (hlt : ∀ d ∈ b, d < 256) (hbl : b.length ≤ 1000000)
    (hrb : Reads F (.slice a b.length cap) b.length 1 (b.map bv)) (H : Sep w F) :
    Calls Try.prog 23 #[.slice a b.length cap, .int .i64 (n : Int)] w (Gives (DPost n b F)) := by
  have hni0 : ¬ (n : Int) < 0 := by omega
  have hni1 : ¬ (4096 : Int) < (n : Int) := by omega
  have HLT := Lib.hid hlt
  clear hlt
  cases b with
  | nil =>
    have HNO : Hid (∀ xs, Fine xs → xs.length = n * 3 → resB xs ≠ []) := Lib.hid fun xs _ _ h2 => by
      rcases resB_cases xs with h | h <;> rw [h] at h2 <;> cases h2
    go_enter Try.func23, Try.ntmps23
    go_wp2_with fail
    go_ret2
    exact ⟨_, rfl, .inr ⟨HNO.out, rfl, H⟩⟩
  | cons d0 rest =>
    obtain ⟨g, o, cp, he⟩ := (hrb _ H).open (by simp)
    simp only [Value.slice.injEq, true_and] at he
    obtain ⟨rfl, rfl⟩ := he
    have hd0 : d0 < 256 := HLT.out d0 (by simp)
    have hrl : (d0 :: rest).length = rest.length + 1 := rfl
    have k0 : w.cell? ⟨g, o, none⟩ = some (.int .u8 (d0 : Int)) := (hrb _ H).cell 0 rfl
    have k00 : w.cell? ⟨g, o + 0, none⟩ = some (.int .u8 (d0 : Int)) := (hrb _ H).cell 0 rfl
    have hrr0 : Reads F (.slice (if cap = 1 then some ⟨g, o, none⟩ else some ⟨g, o + 1, none⟩) rest.length (cap - 1)) rest.length 1 (rest.map bv) := fun w' h => by
      have := RdS.rest (x := bv d0) (hrb w' h) (by omega)
      rw [hrl, Nat.add_sub_cancel] at this
      exact this
    obtain ⟨ra, hra⟩ : ∃ ra : Option Addr, ra = if cap = 1 then some ⟨g, o, none⟩ else some ⟨g, o + 1, none⟩ := ⟨_, rfl⟩
    rw [← hra] at hrr0
    have hcp : (cap = 1 ∧ ra = some ⟨g, o, none⟩) ∨ (¬ cap = 1 ∧ ra = some ⟨g, o + 1, none⟩) := by
      by_cases h1 : cap = 1
      · rw [if_pos h1] at hra; exact .inl ⟨h1, hra⟩
      · rw [if_neg h1] at hra; exact .inr ⟨h1, hra⟩
    clear hra
    have hlr : ∀ d ∈ rest, d < 256 := fun d hd => HLT.out d (by simp [hd])
    have HLR := Lib.hid hlr
    have UNP := Lib.hid fun (ra : Option Addr) (cp : Nat) (hr : Reads F (.slice ra rest.length cp) rest.length 1 (rest.map bv)) => runplain_calls (v := .slice ra rest.length cp) (n := n) hn hlr (by omega) hr H
    have UNC := Lib.hid fun (ra : Option Addr) (cp : Nat) (hr : Reads F (.slice ra rest.length cp) rest.length 1 (rest.map bv)) => runclass_calls (v := .slice ra rest.length cp) (n := n) hn hlr (by omega) hr H
    have hrr : ∃ ra cp, Reads F (.slice ra rest.length cp) rest.length 1 (rest.map bv) ∧ ((cap = 1 ∧ ra = some ⟨g, o, none⟩ ∧ cp = 0) ∨ (¬ cap = 1 ∧ ra = some ⟨g, o + 1, none⟩ ∧ cp = cap - 1)) := ⟨ra, cap - 1, hrr0, hcp.imp (fun h => ⟨h.1, h.2, by omega⟩) (fun h => ⟨h.1, h.2, rfl⟩)⟩
    obtain ⟨ra, cp, hrr, hcp⟩ := hrr
    have hcap1 : ¬ cap = 0 := by omega
    have hbi : ¬ (4194304 : Int) < ((d0 :: rest).length : Int) := by omega
    have hbi2 : ¬ (4194304 : Int) < (rest.length : Int) + 1 := by omega
    clear hlr hrr0
    by_cases hz0 : d0 = 0
    · subst hz0
      rcases hcp with ⟨rfl, rfl, rfl⟩ | ⟨hc1, rfl, rfl⟩
      all_goals (
        go_enter Try.func23, Try.ntmps23
        go_wp2_with fail
        refine (UNP.out _ _ hrr).mono ?_
        rintro _ w5 ⟨_, rfl, ⟨out, ou, ho1, ho2, ho3, rfl, H6⟩ | ⟨hno, rfl, H6⟩⟩
        rotate_left
        · have HNO : Hid (∀ xs, Fine xs → xs.length = n * 3 → resB xs ≠ 0 :: rest) := Lib.hid fun xs h1 h2 h3 => hno xs h1 h2 (resB_zero h3)
          clear hno
          go_wp2_with fail
          go_ret2
          exact ⟨_, rfl, .inr ⟨HNO.out, rfl, H6⟩⟩
        obtain ⟨oa, oc, rfl⟩ := H6.row_form
        have HUN : Hid (∀ xs, Fine xs → xs.length = n * 3 → resB xs = 0 :: rest → out = xs) := Lib.hid fun xs h1 h2 h3 => ho3 xs h1 h2 (resB_zero h3)
        have HOL := Lib.hid ho1
        have EC := rencode_calls (v := .slice oa n oc) (n := n) (xs := out) ho2 Reads.row H6
        clear ho1 ho2 ho3
        go_wp2_with fail
        refine EC.mono ?_
        rintro _ w7 ⟨_, rfl, ⟨hf, rfl, H7⟩ | ⟨hf, ea, ec, rfl, H7⟩⟩
        · have HNO : Hid (∀ xs, Fine xs → xs.length = n * 3 → resB xs ≠ 0 :: rest) := Lib.hid fun xs h1 h2 h3 => by
            have := HUN.out xs h1 h2 h3
            subst this
            exact hf (rfit_ok hn h1)
          have hfi : ¬ (rfitE n out : Int) = 0 := by omega
          have hfb : ((rfitE n out : Int) != 0) = true := by rw [bne_iff_ne]; exact hfi
          clear hf EC
          generalize rfitE n out = fe at *
          go_wp2_with fail
          go_ret2
          exact ⟨_, rfl, .inr ⟨HNO.out, rfl, H7.tail⟩⟩
        have HFI := Lib.hid (rfit_fine hf)
        have BC := bequal_calls (resB_lt out) HLT.out H7.rd (hrb.cons.cons _ H7)
        clear EC hf
        generalize hE : resB out = E at *
        have HE := Lib.hid hE
        clear hE
        by_cases heq : E = 0 :: rest
        · rw [decide_eq_true heq] at BC
          have HQ := Lib.hid heq
          clear heq
          go_wp2_with fail
          refine BC.mono ?_
          rintro _ _ ⟨rfl, rfl⟩
          go_wp2_with fail
          go_ret2
          exact ⟨_, rfl, .inl ⟨out, _, _, HFI.out, HOL.out, by rw [HE.out, HQ.out], HUN.out, rfl, H7.tail⟩⟩
        · rw [decide_eq_false heq] at BC
          have HNO : Hid (∀ xs, Fine xs → xs.length = n * 3 → resB xs ≠ 0 :: rest) := Lib.hid fun xs h1 h2 h3 => by
            have h4 := HUN.out xs h1 h2 h3
            subst h4
            exact heq (HE.out.symm.trans h3)
          clear heq
          go_wp2_with fail
          refine BC.mono ?_
          rintro _ _ ⟨rfl, rfl⟩
          go_wp2_with fail
          go_ret2
          exact ⟨_, rfl, .inr ⟨HNO.out, rfl, H7.tail.tail⟩⟩)
    by_cases hz1 : d0 = 1
    · subst hz1
      rcases hcp with ⟨rfl, rfl, rfl⟩ | ⟨hc1, rfl, rfl⟩
      all_goals (
        go_enter Try.func23, Try.ntmps23
        go_wp2_with fail
        refine (UNC.out _ _ hrr).mono ?_
        rintro _ w5 ⟨_, rfl, ⟨out, ou, ho1, ho2, ho3, rfl, H6⟩ | ⟨hno, rfl, H6⟩⟩
        rotate_left
        · have HNO : Hid (∀ xs, Fine xs → xs.length = n * 3 → resB xs ≠ 1 :: rest) := Lib.hid fun xs h1 h2 h3 => hno xs (resB_one h1 h2 h3)
          clear hno
          go_wp2_with fail
          go_ret2
          exact ⟨_, rfl, .inr ⟨HNO.out, rfl, H6⟩⟩
        obtain ⟨oa, oc, rfl⟩ := H6.row_form
        have HUN : Hid (∀ xs, Fine xs → xs.length = n * 3 → resB xs = 1 :: rest → out = xs) := Lib.hid fun xs h1 h2 h3 => ho3 xs (resB_one h1 h2 h3)
        have HOL := Lib.hid ho1
        have EC := rencode_calls (v := .slice oa n oc) (n := n) (xs := out) ho2 Reads.row H6
        clear ho1 ho2 ho3
        go_wp2_with fail
        refine EC.mono ?_
        rintro _ w7 ⟨_, rfl, ⟨hf, rfl, H7⟩ | ⟨hf, ea, ec, rfl, H7⟩⟩
        · have HNO : Hid (∀ xs, Fine xs → xs.length = n * 3 → resB xs ≠ 1 :: rest) := Lib.hid fun xs h1 h2 h3 => by
            have := HUN.out xs h1 h2 h3
            subst this
            exact hf (rfit_ok hn h1)
          have hfi : ¬ (rfitE n out : Int) = 0 := by omega
          have hfb : ((rfitE n out : Int) != 0) = true := by rw [bne_iff_ne]; exact hfi
          clear hf EC
          generalize rfitE n out = fe at *
          go_wp2_with fail
          go_ret2
          exact ⟨_, rfl, .inr ⟨HNO.out, rfl, H7.tail⟩⟩
        have HFI := Lib.hid (rfit_fine hf)
        have BC := bequal_calls (resB_lt out) HLT.out H7.rd (hrb.cons.cons _ H7)
        clear EC hf
        generalize hE : resB out = E at *
        have HE := Lib.hid hE
        clear hE
        by_cases heq : E = 1 :: rest
        · rw [decide_eq_true heq] at BC
          have HQ := Lib.hid heq
          clear heq
          go_wp2_with fail
          refine BC.mono ?_
          rintro _ _ ⟨rfl, rfl⟩
          go_wp2_with fail
          go_ret2
          exact ⟨_, rfl, .inl ⟨out, _, _, HFI.out, HOL.out, by rw [HE.out, HQ.out], HUN.out, rfl, H7.tail⟩⟩
        · rw [decide_eq_false heq] at BC
          have HNO : Hid (∀ xs, Fine xs → xs.length = n * 3 → resB xs ≠ 1 :: rest) := Lib.hid fun xs h1 h2 h3 => by
            have h4 := HUN.out xs h1 h2 h3
            subst h4
            exact heq (HE.out.symm.trans h3)
          clear heq
          go_wp2_with fail
          refine BC.mono ?_
          rintro _ _ ⟨rfl, rfl⟩
          go_wp2_with fail
          go_ret2
          exact ⟨_, rfl, .inr ⟨HNO.out, rfl, H7.tail.tail⟩⟩)
    have HNO : Hid (∀ xs, Fine xs → xs.length = n * 3 → resB xs ≠ d0 :: rest) := Lib.hid fun xs h1 h2 h3 => by
      rcases resB_cases xs with h | h
      · rw [h] at h3
        simp only [List.cons.injEq] at h3
        exact hz1 h3.1.symm
      · rw [h] at h3
        simp only [List.cons.injEq] at h3
        exact hz0 h3.1.symm
    have b0 : ((d0 : Int) == 0) = false := by rw [beq_eq_false_iff_ne]; omega
    have b1 : ((d0 : Int) == 1) = false := by rw [beq_eq_false_iff_ne]; omega
    have b00 : ¬ (d0 : Int) = 0 := by omega
    have b11 : ¬ (d0 : Int) = 1 := by omega
    go_enter Try.func23, Try.ntmps23
    go_wp2_with fail
    go_ret2
    exact ⟨_, rfl, .inr ⟨HNO.out, rfl, H⟩⟩

end Go.Proofs.Ytbhpcpcpccmacaa
