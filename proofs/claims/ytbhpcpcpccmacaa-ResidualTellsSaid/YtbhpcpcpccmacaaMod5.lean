/- model: Encode. -/
import Derived.Test.YtbhpcpcpccmacaaMod4
namespace Go.Proofs.Ytbhpcpcpccmacaa
open Go.RowKit Go.Shelf

/-- May a row be? -/
def fitE (n cx : Int) (syms ctx : List Int) : Nat :=
  if n < 1 ∨ 256 < n ∨ cx < 1 ∨ 64 < cx then 2
  else if syms.length ≠ ctx.length then 1
  else if 65536 < syms.length then 7
  else if (∀ s ∈ syms, 0 ≤ s ∧ s < n) ∧ (∀ c ∈ ctx, 0 ≤ c ∧ c < cx) then 0 else 2
/-- A row's bytes. -/
noncomputable def encN (n : Nat) (ss cs : List Nat) : List Nat := if (codedB n (cs.zip ss)).length < (plainB n ss).length then codedB n (cs.zip ss) else plainB n ss
noncomputable def encB (n : Int) (syms ctx : List Int) : List Nat := encN n.toNat (syms.map Int.toNat) (ctx.map Int.toNat)
def EncPost (n cx : Int) (syms ctx : List Int) (F : List HP) (r : Value) (w' : World) : Prop :=
  (fitE n cx syms ctx ≠ 0 ∧ r = .tuple #[.slice none 0 0, .int .i64 (fitE n cx syms ctx : Int)] ∧ Sep w' F) ∨
  (fitE n cx syms ctx = 0 ∧ ∃ u, r = .tuple #[u, .int .i64 0] ∧ Sep w' (HP.row 5 1 u (encB n syms ctx).length ((encB n syms ctx).map bv) :: F))
theorem iv_dv {l : List Int} (h : ∀ x ∈ l, 0 ≤ x) : l.map iv = (l.map Int.toNat).map dv := by
  rw [List.map_map]
  refine List.map_congr_left fun x hx => ?_
  have := h x hx
  show Value.int .i64 x = Value.int .i64 ((x.toNat : Nat) : Int)
  rw [Int.toNat_of_nonneg this]

set_option maxRecDepth 100000 in
set_option maxHeartbeats 8000000 in
theorem mencode_calls {v u : Value} {n cx : Int} {syms ctx : List Int} {F : List HP} {w : World} (hrv : Reads F v syms.length 1 (syms.map iv)) (hru : Reads F u ctx.length 1 (ctx.map iv)) (H : Sep w F) :
    Calls Try.prog 26 #[.int .i64 n, .int .i64 cx, v, u] w (Gives (EncPost n cx syms ctx F)) := by
  obtain ⟨a, cap, rfl⟩ := (hrv w H).form
  obtain ⟨ua, ucap, rfl⟩ := (hru w H).form
  have CN := check_calls (v := .slice none 0 0) (n := n) (cx := cx) (ctx := []) (w := w) ⟨rfl, .inl ⟨rfl, rfl⟩⟩
  have CC := check_calls (n := n) (cx := cx) (hru w H)
  by_cases h1 : n < 1 ∨ 256 < n ∨ cx < 1 ∨ 64 < cx
  · have e1 : chkE n cx [] = 2 := by unfold chkE; rw [if_pos h1]
    have e2 : fitE n cx syms ctx = 2 := by unfold fitE; rw [if_pos h1]
    rw [e1] at CN
    have HE := Lib.hid e2
    clear e1 e2 h1 CC
    go_enter Try.func26, Try.ntmps26
    go_wp2_with fail
    refine CN.mono ?_
    rintro _ _ ⟨rfl, rfl⟩
    go_wp2_with fail
    go_ret2
    exact ⟨_, rfl, .inl ⟨by rw [HE.out]; decide, by rw [HE.out]; rfl, H⟩⟩
  have e1 : chkE n cx [] = 0 := by unfold chkE; rw [if_neg h1, if_neg (by simp), if_pos (by simp)]
  rw [e1] at CN
  by_cases h2 : syms.length ≠ ctx.length
  · have e2 : fitE n cx syms ctx = 1 := by unfold fitE; rw [if_neg h1, if_pos h2]
    have HE := Lib.hid e2
    have hb : ((ctx.length : Int) != (syms.length : Int)) = true := by rw [bne_iff_ne]; omega
    have hb2 : ¬ (ctx.length : Int) = (syms.length : Int) := by omega
    clear e1 e2 h1 CC h2
    go_enter Try.func26, Try.ntmps26
    go_wp2_with fail
    refine CN.mono ?_
    rintro _ _ ⟨rfl, rfl⟩
    go_wp2_with fail
    go_ret2
    exact ⟨_, rfl, .inl ⟨by rw [HE.out]; decide, by rw [HE.out]; rfl, H⟩⟩
  have h2e : syms.length = ctx.length := by omega
  have hb : ((ctx.length : Int) != (syms.length : Int)) = false := by rw [bne_eq_false_iff_eq]; omega
  have hb2 : (ctx.length : Int) = (syms.length : Int) := by omega
  by_cases h3 : chkE n cx ctx ≠ 0
  · have e2 : fitE n cx syms ctx = chkE n cx ctx := by
      unfold fitE
      unfold chkE at h3 ⊢
      rw [if_neg h1] at h3
      rw [if_neg h1, if_neg h2, if_neg h1, h2e]
      by_cases h4 : 65536 < ctx.length
      · rw [if_pos h4, if_pos h4]
      rw [if_neg h4] at h3
      rw [if_neg h4, if_neg h4]
      by_cases h5 : ∀ c ∈ ctx, 0 ≤ c ∧ c < cx
      · rw [if_pos h5] at h3; exact absurd rfl h3
      · rw [if_neg h5, if_neg (fun h => h5 h.2)]
    have HE := Lib.hid e2
    have HB := Lib.hid hb2
    have hne : ((chkE n cx ctx : Int) != 0) = true := by rw [bne_iff_ne]; omega
    have hne2 : ¬ chkE n cx ctx = 0 := h3
    have hne3 : ¬ (chkE n cx ctx : Int) = 0 := by omega
    generalize chkE n cx ctx = ce at *
    clear e1 e2 h1 h2 h3 h2e hb2
    go_enter Try.func26, Try.ntmps26
    go_wp2_with fail
    refine CN.mono ?_
    rintro _ _ ⟨rfl, rfl⟩
    go_wp2_with fail
    refine CC.mono ?_
    rintro _ _ ⟨rfl, rfl⟩
    go_wp2_with fail
    go_ret2
    exact ⟨_, rfl, .inl ⟨by rw [HE.out]; exact hne2, by rw [HE.out]; rfl, H⟩⟩
  have h3e : chkE n cx ctx = 0 := by omega
  have h4 : ¬ 65536 < ctx.length := fun h => by
    unfold chkE at h3e
    rw [if_neg h1, if_pos h] at h3e
    exact absurd h3e (by decide)
  have h5 : ∀ c ∈ ctx, 0 ≤ c ∧ c < cx := by
    apply Classical.byContradiction
    intro h
    unfold chkE at h3e
    rw [if_neg h1, if_neg h4, if_neg h] at h3e
    exact absurd h3e (by decide)
  rw [h3e] at CC
  have hfit : fitE n cx syms ctx = if ∀ s ∈ syms, 0 ≤ s ∧ s < n then 0 else 2 := by
    unfold fitE
    rw [if_neg h1, if_neg h2, if_neg (by omega)]
    by_cases h6 : ∀ s ∈ syms, 0 ≤ s ∧ s < n
    · rw [if_pos ⟨h6, h5⟩, if_pos h6]
    · rw [if_neg (fun h => h6 h.1), if_neg h6]
  have HF := Lib.hid hfit
  have H5 := Lib.hid h5
  have HB := Lib.hid hb2
  have hn1 : 1 ≤ n := by omega
  have hn2 : n ≤ 256 := by omega
  have hc1 : 1 ≤ cx := by omega
  have hc2 : cx ≤ 64 := by omega
  have hl : syms.length ≤ 65536 := by omega
  have HL := Lib.hid h2e
  clear hfit h5 h1 h2 h3 h3e h4 e1 hb2 h2e
  go_enter Try.func26, Try.ntmps26
  go_wp2_with fail
  refine CN.mono ?_
  rintro _ _ ⟨rfl, rfl⟩
  go_wp2_with fail
  refine CC.mono ?_
  rintro _ _ ⟨rfl, rfl⟩
  clear CN CC
  go_wp2_with fail
  go_loopg [36] syms.length (fun gk i wr => wr = w ∧ ∃ t : Nat, Hid (t ≤ syms.length ∧ gk = syms.length - t) ∧ Hid (∀ s ∈ syms.take t, 0 ≤ s ∧ s < n) ∧ i = .int .i64 (t : Int))
  case atStart => exact ⟨rfl, 0, Lib.hid ⟨by omega, rfl⟩, Lib.hid (by simp), rfl⟩
  case round =>
    obtain ⟨rfl, t, hq, hh, rfl⟩ := hrel
    obtain ⟨q1, q2⟩ := hq.out
    clear hq
    by_cases ht : t < syms.length
    · obtain ⟨g, o, cap', he⟩ := (hrv _ H).open (by omega)
      simp only [Value.slice.injEq, true_and] at he
      obtain ⟨rfl, rfl⟩ := he
      have k1 : wr.cell? ⟨g, o + t, none⟩ = some (.int .i64 syms[t]) := (hrv _ H).cell t (iv_get ht)
      have HT := Lib.hid (List.take_succ_eq_append_getElem ht)
      have HM := Lib.hid (List.getElem_mem ht)
      have hti : (t : Int) < (syms.length : Int) := by omega
      generalize syms[t] = x at k1 HT HM
      by_cases c1 : x < 0
      · have HR : Hid (fitE n cx syms ctx = 2) := Lib.hid (by rw [HF.out, if_neg (fun h => by have := h x HM.out; omega)])
        go_wp2_with fail
        go_ret2
        exact ⟨_, rfl, .inl ⟨by rw [HR.out]; decide, by rw [HR.out]; rfl, H⟩⟩
      by_cases c2 : n ≤ x
      · have HR : Hid (fitE n cx syms ctx = 2) := Lib.hid (by rw [HF.out, if_neg (fun h => by have := h x HM.out; omega)])
        go_wp2_with fail
        go_ret2
        exact ⟨_, rfl, .inl ⟨by rw [HR.out]; decide, by rw [HR.out]; rfl, H⟩⟩
      have HN : Hid (∀ c ∈ syms.take (t + 1), 0 ≤ c ∧ c < n) := Lib.hid (by
        rw [HT.out]
        intro y hy
        rcases List.mem_append.1 hy with hy | hy
        · exact hh.out y hy
        · have : y = x := by simpa using hy
          omega)
      go_wp2_with fail
      go_roundg (syms.length - (t + 1))
      case rel => exact ⟨rfl, t + 1, Lib.hid ⟨by omega, rfl⟩, HN, by go_num⟩
      case measure => omega
    · obtain rfl : t = syms.length := by omega
      have hti : ¬ (syms.length : Int) < (syms.length : Int) := by omega
      have hall := hh.out
      rw [List.take_length] at hall
      have HR : Hid (fitE n cx syms ctx = 0) := Lib.hid (by rw [HF.out, if_pos hall])
      have hv2 := iv_dv (fun x hx => (hall x hx).1)
      have hu2 := iv_dv (fun x hx => (H5.out x hx).1)
      rw [hv2] at hrv
      rw [hu2] at hru
      obtain ⟨N, rfl⟩ := Int.eq_ofNat_of_zero_le (show 0 ≤ n by omega)
      obtain ⟨C, rfl⟩ := Int.eq_ofNat_of_zero_le (show 0 ≤ cx by omega)
      have hs : ∀ s ∈ syms.map Int.toNat, s < N := fun s hs => by
        obtain ⟨x, hx, rfl⟩ := List.mem_map.1 hs
        have := hall x hx
        omega
      have hc : ∀ s ∈ ctx.map Int.toNat, s < C := fun s hs => by
        obtain ⟨x, hx, rfl⟩ := List.mem_map.1 hs
        have := H5.out x hx
        omega
      have hl1 : syms.length = (syms.map Int.toNat).length := by rw [List.length_map]
      have hl2 : ctx.length = (ctx.map Int.toNat).length := by rw [List.length_map]
      have PC := plain_calls (v := .slice a syms.length cap) (n := N) (by omega) hs (by rw [← hl1]; exact hl) (by rw [← hl1]; exact hrv) H
      have CDC := fun (w' : World) (X : HP) (h : Sep w' (X :: F)) => coded_calls (v := .slice a syms.length cap) (u := .slice ua ctx.length ucap) (n := N) (cx := C) (by omega) (by omega) (by omega) hs hc (by rw [← hl1, ← hl2, HL.out]) (by rw [← hl1]; exact hl) (by rw [← hl1]; exact hrv.cons) (by rw [← hl2]; exact hru.cons) h
      have HEB : Hid (encB (N : Int) syms ctx = if (codedB N ((ctx.map Int.toNat).zip (syms.map Int.toNat))).length < (plainB N (syms.map Int.toNat)).length then codedB N ((ctx.map Int.toNat).zip (syms.map Int.toNat)) else plainB N (syms.map Int.toNat)) := Lib.hid rfl
      generalize codedB N ((ctx.map Int.toNat).zip (syms.map Int.toNat)) = cd at *
      generalize plainB N (syms.map Int.toNat) = pd at *
      have HCDC := Lib.hid CDC
      clear hall hv2 hu2 hs hc hl1 hl2 hh CDC
      go_wp2_with fail
      refine PC.mono ?_
      rintro _ w5 ⟨r5, rfl, H6⟩
      obtain ⟨ra, rc, rfl⟩ := H6.row_form
      clear PC
      have C2 := HCDC.out _ _ H6
      go_wp2_with fail
      refine C2.mono ?_
      rintro _ w6 ⟨r6, rfl, H7⟩
      obtain ⟨ra2, rc2, rfl⟩ := H7.row_form
      clear C2 H6
      by_cases hlt : cd.length < pd.length
      · have e1 := HEB.out
        rw [if_pos hlt] at e1
        have HE1 := Lib.hid e1
        clear e1
        go_wp2_with fail
        go_ret2
        exact ⟨_, rfl, .inr ⟨HR.out, _, rfl, by rw [HE1.out]; exact H7.swap.tail⟩⟩
      · have e1 := HEB.out
        rw [if_neg hlt] at e1
        have HE1 := Lib.hid e1
        clear e1
        go_wp2_with fail
        go_ret2
        exact ⟨_, rfl, .inr ⟨HR.out, _, rfl, by rw [HE1.out]; exact H7.tail⟩⟩

end Go.Proofs.Ytbhpcpcpccmacaa
