/- model: Decode. -/
import Derived.Test.YtbhpcpcpccmacaaMod7
namespace Go.Proofs.Ytbhpcpcpccmacaa
open Go.RowKit Go.Shelf

def DecPost (n cx : Int) (b : List Nat) (ctx : List Int) (F : List HP) (r : Value) (w' : World) : Prop :=
  (chkE n cx ctx ≠ 0 ∧ r = .tuple #[.slice none 0 0, .int .i64 (chkE n cx ctx : Int)] ∧ Sep w' F) ∨
  (chkE n cx ctx = 0 ∧ ∃ ss u, RowOk n.toNat ctx.length ss ∧ encN n.toNat ss (ctx.map Int.toNat) = b ∧ (∀ ss', RowOk n.toNat ctx.length ss' → encN n.toNat ss' (ctx.map Int.toNat) = b → ss = ss') ∧ r = .tuple #[u, .int .i64 0] ∧ Sep w' (HP.row 3 1 u ctx.length (ss.map dv) :: F)) ∨
  (chkE n cx ctx = 0 ∧ (∀ ss, RowOk n.toNat ctx.length ss → encN n.toNat ss (ctx.map Int.toNat) ≠ b) ∧ r = .tuple #[.slice none 0 0, .int .i64 3] ∧ Sep w' F)
theorem encN_cases (n : Nat) (ss cs : List Nat) : encN n ss cs = 1 :: codeB (mrun n (cs.zip ss)).1 ∨ encN n ss cs = 0 :: pk (rowBits n ss) := by
  unfold encN
  split
  · exact .inl rfl
  · exact .inr rfl
theorem pk_lt (l : List Bool) : ∀ d ∈ pk l, d < 256 := by
  intro d hd
  unfold pk pkN at hd
  obtain ⟨j, -, rfl⟩ := List.mem_map.1 hd
  exact byteAt_lt l j
theorem encN_lt (n : Nat) (ss cs : List Nat) : ∀ d ∈ encN n ss cs, d < 256 := by
  intro d hd
  rcases encN_cases n ss cs with h | h
  · rw [h] at hd
    rcases List.mem_cons.1 hd with rfl | hd
    · decide
    · exact codeB_lt _ d hd
  · rw [h] at hd
    rcases List.mem_cons.1 hd with rfl | hd
    · decide
    · exact pk_lt _ d hd
theorem chk_ok {n cx : Int} {ctx : List Int} (h : chkE n cx ctx = 0) : 1 ≤ n ∧ n ≤ 256 ∧ 1 ≤ cx ∧ cx ≤ 64 ∧ ctx.length ≤ 65536 ∧ ∀ c ∈ ctx, 0 ≤ c ∧ c < cx := by
  unfold chkE at h
  by_cases h1 : n < 1 ∨ 256 < n ∨ cx < 1 ∨ 64 < cx
  · rw [if_pos h1] at h; exact absurd h (by decide)
  rw [if_neg h1] at h
  by_cases h2 : 65536 < ctx.length
  · rw [if_pos h2] at h; exact absurd h (by decide)
  rw [if_neg h2] at h
  by_cases h3 : ∀ c ∈ ctx, 0 ≤ c ∧ c < cx
  · exact ⟨by omega, by omega, by omega, by omega, by omega, h3⟩
  · rw [if_neg h3] at h; exact absurd h (by decide)
theorem fit_ok {n cx : Int} {ctx : List Int} {out : List Nat} (h : chkE n cx ctx = 0) (ho : RowOk n.toNat ctx.length out) : fitE n cx (out.map fun x : Nat => (x : Int)) ctx = 0 := by
  obtain ⟨h1, h2, h3, h4, h5, h6⟩ := chk_ok h
  unfold fitE
  rw [if_neg (by omega), if_neg (by rw [List.length_map, ho.1]; omega), if_neg (by rw [List.length_map, ho.1]; omega), if_pos ⟨fun s hs => by obtain ⟨x, hx, rfl⟩ := List.mem_map.1 hs; have := ho.2 x hx; omega, h6⟩]
theorem RdS.rest {w : World} {g o n cap : Nat} {x : Value} {xs : List Value} (h : RdS w (.slice (some ⟨g, o, none⟩) n cap) n 1 (x :: xs)) (hc : n ≤ cap) : RdS w (.slice (if cap = 1 then some ⟨g, o, none⟩ else some ⟨g, o + 1, none⟩) (n - 1) (cap - 1)) (n - 1) 1 xs := by
  have hl := h.1
  simp only [List.length_cons, Nat.mul_one] at hl
  have hh : ∀ (j : Nat) (u : Value), xs[j]? = some u → w.cell? ⟨g, o + 1 + j, none⟩ = some u := fun j u hu => by
    have := h.cell (j + 1) (by simpa using hu)
    rw [show o + 1 + j = o + (j + 1) by omega]
    exact this
  refine ⟨by omega, ?_⟩
  by_cases h1 : cap = 1
  · have hx : xs = [] := List.eq_nil_of_length_eq_zero (by omega)
    subst hx
    rw [if_pos h1]
    exact .inr ⟨_, _, rfl, fun j u hu => by simp at hu⟩
  · rw [if_neg h1]
    exact .inr ⟨_, _, rfl, fun j u hu => by rw [addr_add]; exact hh j u hu⟩

set_option maxRecDepth 100000 in
set_option maxHeartbeats 8000000 in
theorem mdecode_calls {a : Option Addr} {cap : Nat} {u : Value} {n cx : Int} {ctx : List Int} {b : List Nat} {F : List HP} {w : World} (hcap : b.length ≤ cap) (hlt : ∀ d ∈ b, d < 256) (hbl : b.length ≤ 1000000)
    (hrb : Reads F (.slice a b.length cap) b.length 1 (b.map bv)) (hru : Reads F u ctx.length 1 (ctx.map iv)) (H : Sep w F) :
    Calls Try.prog 30 #[.slice a b.length cap, .int .i64 n, .int .i64 cx, u] w (Gives (DecPost n cx b ctx F)) := by
  obtain ⟨ua, ucap, rfl⟩ := (hru w H).form
  have CC := check_calls (n := n) (cx := cx) (hru w H)
  by_cases h3 : chkE n cx ctx ≠ 0
  · have HE := Lib.hid h3
    have hne : ((chkE n cx ctx : Int) != 0) = true := by rw [bne_iff_ne]; omega
    have hne3 : ¬ (chkE n cx ctx : Int) = 0 := by omega
    clear h3
    obtain ⟨ce, hce⟩ : ∃ ce, ce = chkE n cx ctx := ⟨_, rfl⟩
    rw [← hce] at CC hne hne3 HE
    have HCE := Lib.hid hce
    clear hce
    go_enter Try.func30, Try.ntmps30
    go_wp2_with fail
    refine CC.mono ?_
    rintro _ _ ⟨rfl, rfl⟩
    go_wp2_with fail
    go_ret2
    exact ⟨_, rfl, .inl ⟨by rw [← HCE.out]; exact HE.out, by rw [← HCE.out]; rfl, H⟩⟩
  have h3e : chkE n cx ctx = 0 := by omega
  obtain ⟨c1, c2, c3, c4, c5, c6⟩ := chk_ok h3e
  rw [h3e] at CC
  have HCH := Lib.hid h3e
  have HC6 := Lib.hid c6
  have HLT := Lib.hid hlt
  clear h3 h3e c6 hlt
  cases b with
  | nil =>
    have HNO : Hid (∀ ss, RowOk n.toNat ctx.length ss → encN n.toNat ss (ctx.map Int.toNat) ≠ []) := Lib.hid fun ss _ h2 => by
      rcases encN_cases n.toNat ss (ctx.map Int.toNat) with h | h <;> rw [h] at h2 <;> cases h2
    go_enter Try.func30, Try.ntmps30
    go_wp2_with fail
    refine CC.mono ?_
    rintro _ _ ⟨rfl, rfl⟩
    go_wp2_with fail
    go_ret2
    exact ⟨_, rfl, .inr (.inr ⟨HCH.out, HNO.out, rfl, H⟩)⟩
  | cons d0 rest =>
    obtain ⟨g, o, cp, he⟩ := (hrb _ H).open (by simp)
    simp only [Value.slice.injEq, true_and] at he
    obtain ⟨rfl, rfl⟩ := he
    have hd0 : d0 < 256 := HLT.out d0 (by simp)
    have hrl : (d0 :: rest).length = rest.length + 1 := rfl
    have k0 : w.cell? ⟨g, o, none⟩ = some (.int .u8 (d0 : Int)) := (hrb _ H).cell 0 rfl
    have k00 : w.cell? ⟨g, o + 0, none⟩ = some (.int .u8 (d0 : Int)) := (hrb _ H).cell 0 rfl
    have hrr0 : Reads F (.slice (if cap = 1 then some ⟨g, o, none⟩ else some ⟨g, o + 1, none⟩) rest.length (cap - 1)) rest.length 1 (rest.map bv) := fun w' h => by
      have := RdS.rest (x := bv d0) (hrb w' h) (by omega)
      rw [hrl, Nat.add_sub_cancel] at this
      exact this
    obtain ⟨ra, hra⟩ : ∃ ra : Option Addr, ra = if cap = 1 then some ⟨g, o, none⟩ else some ⟨g, o + 1, none⟩ := ⟨_, rfl⟩
    rw [← hra] at hrr0
    have hcp : (cap = 1 ∧ ra = some ⟨g, o, none⟩) ∨ (¬ cap = 1 ∧ ra = some ⟨g, o + 1, none⟩) := by
      by_cases h1 : cap = 1
      · rw [if_pos h1] at hra; exact .inl ⟨h1, hra⟩
      · rw [if_neg h1] at hra; exact .inr ⟨h1, hra⟩
    clear hra
    have hlr : ∀ d ∈ rest, d < 256 := fun d hd => HLT.out d (by simp [hd])
    have HLR := Lib.hid hlr
    obtain ⟨N, hN⟩ := Int.eq_ofNat_of_zero_le (show 0 ≤ n by omega)
    obtain ⟨C, hC⟩ := Int.eq_ofNat_of_zero_le (show 0 ≤ cx by omega)
    have hu2 := iv_dv (fun x hx => (HC6.out x hx).1)
    have hcs : ∀ s ∈ ctx.map Int.toNat, s < C := fun s hs => by
      obtain ⟨x, hx, rfl⟩ := List.mem_map.1 hs
      have := HC6.out x hx
      omega
    have hcl : ctx.length = (ctx.map Int.toNat).length := by rw [List.length_map]
    have UNP := Lib.hid fun (ra : Option Addr) (cp : Nat) (hr : Reads F (.slice ra rest.length cp) rest.length 1 (rest.map bv)) => unplain_calls (v := .slice ra rest.length cp) (n := N) (m := ctx.length) (by omega) (by omega) (by omega) hlr hr H
    have UNC := Lib.hid fun (ra : Option Addr) (cp : Nat) (hr : Reads F (.slice ra rest.length cp) rest.length 1 (rest.map bv)) => uncode_calls (v := .slice ra rest.length cp) (u := .slice ua ctx.length ucap) (n := N) (cx := C) (cs := ctx.map Int.toNat) (by omega) (by omega) (by omega) hcs (by rw [← hcl]; omega) hlr (by omega) hr (by rw [← hcl, ← hu2]; exact hru) H
    have hrr : ∃ ra cp, Reads F (.slice ra rest.length cp) rest.length 1 (rest.map bv) ∧ ((cap = 1 ∧ ra = some ⟨g, o, none⟩ ∧ cp = 0) ∨ (¬ cap = 1 ∧ ra = some ⟨g, o + 1, none⟩ ∧ cp = cap - 1)) := ⟨ra, cap - 1, hrr0, hcp.imp (fun h => ⟨h.1, h.2, by omega⟩) (fun h => ⟨h.1, h.2, rfl⟩)⟩
    obtain ⟨ra, cp, hrr, hcp⟩ := hrr
    have hNt : N = n.toNat := by omega
    rw [← hN] at UNP UNC
    rw [← hC] at UNC
    subst hNt
    have HCL := Lib.hid hcl
    have hcap1 : ¬ cap = 0 := by omega
    clear hlr hrr0 hu2 hcs hN hC hcl
    by_cases hz : d0 = 0
    · subst hz
      rcases hcp with ⟨rfl, rfl, rfl⟩ | ⟨hc1, rfl, rfl⟩
      all_goals (
        go_enter Try.func30, Try.ntmps30
        go_wp2_with fail
        refine CC.mono ?_
        rintro _ _ ⟨rfl, rfl⟩
        go_wp2_with fail
        refine (UNP.out _ _ hrr).mono ?_
        rintro _ w5 ⟨_, rfl, ⟨out, ou, ho1, ho3, rfl, H6⟩ | ⟨hno, rfl, H6⟩⟩
        rotate_left
        · have HNO : Hid (∀ ss, RowOk n.toNat ctx.length ss → encN n.toNat ss (ctx.map Int.toNat) ≠ 0 :: rest) := Lib.hid fun ss h1 h2 => by
            rcases encN_cases n.toNat ss (ctx.map Int.toNat) with h | h
            · rw [h] at h2; simp at h2
            · rw [h] at h2
              exact hno ss h1 (by simpa using h2)
          clear hno
          go_wp2_with fail
          go_ret2
          exact ⟨_, rfl, .inr (.inr ⟨HCH.out, HNO.out, rfl, H6⟩)⟩
        obtain ⟨oa, oc, rfl⟩ := H6.row_form
        have ho2 : ∀ ss, RowOk n.toNat ctx.length ss → encN n.toNat ss (ctx.map Int.toNat) = 0 :: rest → out = ss := fun ss h1 h2 => by
          rcases encN_cases n.toNat ss (ctx.map Int.toNat) with h | h
          · rw [h] at h2; simp at h2
          · rw [h] at h2
            exact ho3 ss h1 (by simpa using h2)
        clear ho3
        have HOK := Lib.hid ho1
        have HUN := Lib.hid ho2
        clear ho1 ho2
        go_wp2_with fail
        have EC := mencode_calls (v := .slice oa ctx.length oc) (u := .slice ua ctx.length ucap) (n := n) (cx := cx) (syms := out.map fun x : Nat => (x : Int)) (ctx := ctx) (by rw [List.length_map, HOK.out.1, List.map_map]; exact Reads.row) hru.cons H6
        refine EC.mono ?_
        rintro _ w7 ⟨_, rfl, ⟨hf, -, -⟩ | ⟨-, u7, rfl, H7⟩⟩
        · exact absurd (fit_ok HCH.out HOK.out) hf
        clear EC
        obtain ⟨ea, ec, rfl⟩ := H7.row_form
        have heb : encB n (out.map fun x : Nat => (x : Int)) ctx = encN n.toNat out (ctx.map Int.toNat) := by
          unfold encB
          rw [List.map_map]
          congr 1
          exact (List.map_congr_left fun x _ => rfl).trans (List.map_id _)
        rw [heb] at H7 ⊢
        clear heb
        generalize hE : encN n.toNat out (ctx.map Int.toNat) = E at *
        have HE := Lib.hid hE
        have hEl : ∀ d ∈ E, d < 256 := by rw [← hE]; exact encN_lt _ _ _
        have HEL := Lib.hid hEl
        clear hE hEl
        have BC := bequal_calls HEL.out HLT.out H7.rd (hrb.cons.cons _ H7)
        by_cases heq : E = 0 :: rest
        · rw [decide_eq_true heq] at BC
          have HQ := Lib.hid heq
          clear heq
          go_wp2_with fail
          refine BC.mono ?_
          rintro _ _ ⟨rfl, rfl⟩
          go_wp2_with fail
          go_ret2
          exact ⟨_, rfl, .inr (.inl ⟨HCH.out, out, _, HOK.out, by rw [HE.out, HQ.out], HUN.out, rfl, H7.tail⟩)⟩
        · rw [decide_eq_false heq] at BC
          have HNO : Hid (∀ ss, RowOk n.toNat ctx.length ss → encN n.toNat ss (ctx.map Int.toNat) ≠ 0 :: rest) := Lib.hid fun ss h1 h2 => by
            have h3 := HUN.out ss h1 h2
            subst h3
            exact heq (HE.out.symm.trans h2)
          clear heq
          go_wp2_with fail
          refine BC.mono ?_
          rintro _ _ ⟨rfl, rfl⟩
          go_wp2_with fail
          go_ret2
          exact ⟨_, rfl, .inr (.inr ⟨HCH.out, HNO.out, rfl, H7.tail.tail⟩)⟩)
    by_cases hz1 : d0 = 1
    · subst hz1
      rcases hcp with ⟨rfl, rfl, rfl⟩ | ⟨hc1, rfl, rfl⟩
      all_goals (
        go_enter Try.func30, Try.ntmps30
        go_wp2_with fail
        refine CC.mono ?_
        rintro _ _ ⟨rfl, rfl⟩
        go_wp2_with fail
        refine (UNC.out _ _ hrr).mono ?_
        rintro _ w5 ⟨_, rfl, out, ou, ho1, ho3, rfl, H6⟩
        rw [← HCL.out] at ho1 ho3 H6
        obtain ⟨oa, oc, rfl⟩ := H6.row_form
        have ho2 : ∀ ss, RowOk n.toNat ctx.length ss → encN n.toNat ss (ctx.map Int.toNat) = 1 :: rest → out = ss := fun ss h1 h2 => by
          rcases encN_cases n.toNat ss (ctx.map Int.toNat) with h | h
          · rw [h] at h2
            exact ho3 ss h1 (by simpa using h2)
          · rw [h] at h2; simp at h2
        clear ho3
        have HOK := Lib.hid ho1
        have HUN := Lib.hid ho2
        clear ho1 ho2
        go_wp2_with fail
        have EC := mencode_calls (v := .slice oa ctx.length oc) (u := .slice ua ctx.length ucap) (n := n) (cx := cx) (syms := out.map fun x : Nat => (x : Int)) (ctx := ctx) (by rw [List.length_map, HOK.out.1, List.map_map]; exact Reads.row) hru.cons H6
        refine EC.mono ?_
        rintro _ w7 ⟨_, rfl, ⟨hf, -, -⟩ | ⟨-, u7, rfl, H7⟩⟩
        · exact absurd (fit_ok HCH.out HOK.out) hf
        clear EC
        obtain ⟨ea, ec, rfl⟩ := H7.row_form
        have heb : encB n (out.map fun x : Nat => (x : Int)) ctx = encN n.toNat out (ctx.map Int.toNat) := by
          unfold encB
          rw [List.map_map]
          congr 1
          exact (List.map_congr_left fun x _ => rfl).trans (List.map_id _)
        rw [heb] at H7 ⊢
        clear heb
        generalize hE : encN n.toNat out (ctx.map Int.toNat) = E at *
        have HE := Lib.hid hE
        have hEl : ∀ d ∈ E, d < 256 := by rw [← hE]; exact encN_lt _ _ _
        have HEL := Lib.hid hEl
        clear hE hEl
        have BC := bequal_calls HEL.out HLT.out H7.rd (hrb.cons.cons _ H7)
        by_cases heq : E = 1 :: rest
        · rw [decide_eq_true heq] at BC
          have HQ := Lib.hid heq
          clear heq
          go_wp2_with fail
          refine BC.mono ?_
          rintro _ _ ⟨rfl, rfl⟩
          go_wp2_with fail
          go_ret2
          exact ⟨_, rfl, .inr (.inl ⟨HCH.out, out, _, HOK.out, by rw [HE.out, HQ.out], HUN.out, rfl, H7.tail⟩)⟩
        · rw [decide_eq_false heq] at BC
          have HNO : Hid (∀ ss, RowOk n.toNat ctx.length ss → encN n.toNat ss (ctx.map Int.toNat) ≠ 1 :: rest) := Lib.hid fun ss h1 h2 => by
            have h3 := HUN.out ss h1 h2
            subst h3
            exact heq (HE.out.symm.trans h2)
          clear heq
          go_wp2_with fail
          refine BC.mono ?_
          rintro _ _ ⟨rfl, rfl⟩
          go_wp2_with fail
          go_ret2
          exact ⟨_, rfl, .inr (.inr ⟨HCH.out, HNO.out, rfl, H7.tail.tail⟩)⟩)
    have HNO : Hid (∀ ss, RowOk n.toNat ctx.length ss → encN n.toNat ss (ctx.map Int.toNat) ≠ d0 :: rest) := Lib.hid fun ss h1 h2 => by
      rcases encN_cases n.toNat ss (ctx.map Int.toNat) with h | h
      · rw [h] at h2
        simp only [List.cons.injEq] at h2
        exact hz1 h2.1.symm
      · rw [h] at h2
        simp only [List.cons.injEq] at h2
        exact hz h2.1.symm
    have b0 : ((d0 : Int) == 0) = false := by rw [beq_eq_false_iff_ne]; omega
    have b1 : ((d0 : Int) == 1) = false := by rw [beq_eq_false_iff_ne]; omega
    have b00 : ¬ (d0 : Int) = 0 := by omega
    have b11 : ¬ (d0 : Int) = 1 := by omega
    go_enter Try.func30, Try.ntmps30
    go_wp2_with fail
    refine CC.mono ?_
    rintro _ _ ⟨rfl, rfl⟩
    go_wp2_with fail
    go_ret2
    exact ⟨_, rfl, .inr (.inr ⟨HCH.out, HNO.out, rfl, H⟩)⟩

end Go.Proofs.Ytbhpcpcpccmacaa
