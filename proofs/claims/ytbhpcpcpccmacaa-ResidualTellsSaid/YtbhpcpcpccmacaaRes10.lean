/- residual: Encode. -/
import Derived.Test.YtbhpcpcpccmacaaRes9
namespace Go.Proofs.Ytbhpcpcpccmacaa
open Go.RowKit Go.Shelf

/-- May a row be written? -/
def rfitE (n : Nat) (xs : List Nat) : Nat := if 4096 < n then 7 else if Fine xs then 0 else 2
def REncPost (n : Nat) (xs : List Nat) (F : List HP) (r : Value) (w' : World) : Prop :=
  (rfitE n xs ≠ 0 ∧ r = .tuple #[.slice none 0 0, .int .i64 (rfitE n xs : Int)] ∧ Sep w' F) ∨
  (rfitE n xs = 0 ∧ ∃ a c, r = .tuple #[.slice a (resB xs).length c, .int .i64 0] ∧ Sep w' (HP.row 5 1 (.slice a (resB xs).length c) (resB xs).length ((resB xs).map bv) :: F))
theorem rfit_ok {n : Nat} {xs : List Nat} (h1 : n ≤ 4096) (h2 : Fine xs) : rfitE n xs = 0 := by unfold rfitE; rw [if_neg (by omega), if_pos h2]

set_option maxRecDepth 100000 in
set_option maxHeartbeats 8000000 in
theorem rencode_calls {v : Value} {n : Nat} {xs : List Nat} {F : List HP} {w : World} (h64 : ∀ x ∈ xs, x ≤ 18446744073709551615) (hrd : Reads F v n 3 (xs.map uv)) (H : Sep w F) :
    Calls Try.prog 22 #[v] w (Gives (REncPost n xs F)) := by
  obtain ⟨va, vc, rfl⟩ := (hrd w H).form
  by_cases h1 : 4096 < n
  · have HE : Hid (rfitE n xs = 7) := Lib.hid (by unfold rfitE; rw [if_pos h1])
    have hni : (4096 : Int) < (n : Int) := by omega
    go_enter Try.func22, Try.ntmps22
    go_wp2_with fail
    go_ret2
    exact ⟨_, rfl, .inl ⟨by rw [HE.out]; decide, by rw [HE.out]; rfl, H⟩⟩
  have hni : ¬ (4096 : Int) < (n : Int) := by omega
  have hn : n ≤ 4096 := by omega
  have hfe : rfitE n xs = if Fine xs then 0 else 2 := by unfold rfitE; rw [if_neg h1]
  have hl : xs.length = n * 3 := by have := (hrd w H).1; rw [List.length_map] at this; exact this
  have HL := Lib.hid hl
  have HFE := Lib.hid hfe
  have H64 := Lib.hid h64
  clear hl hfe h1 h64
  go_enter Try.func22, Try.ntmps22
  go_wp2_with fail
  go_loopg [13] n (fun gk i wr => ∃ t : Nat, Hid (t ≤ n ∧ gk = n - t ∧ Fine (xs.take (t * 3))) ∧ i = .int .i64 (t : Int) ∧ Sep wr F)
  case atStart => exact ⟨0, Lib.hid ⟨by omega, rfl, by rw [Nat.zero_mul, List.take_zero]; exact fun x hx => by simp at hx⟩, rfl, H⟩
  case round =>
    clear H
    obtain ⟨t, hq, rfl, Hr⟩ := hrel
    obtain ⟨q1, q2, q3⟩ := hq.out
    have Q3 := Lib.hid q3
    clear hq q3
    by_cases ht : t < n
    · obtain ⟨g, o, cap, he⟩ := (hrd _ Hr).open (by omega)
      simp only [Value.slice.injEq, true_and] at he
      obtain ⟨rfl, rfl⟩ := he
      obtain ⟨a, b, c, h0, h1, h2, h3, ma, mb, mc⟩ := three_at HL.out ht
      have k0 := (hrd _ Hr).three (j := 0) h0
      have k1 := (hrd _ Hr).three (j := 1) h1
      have k2 := (hrd _ Hr).three (j := 2) h2
      rw [Nat.add_zero] at k0
      have hti : (t : Int) < (n : Int) := by omega
      have HB3 : Hid (xs.take ((t + 1) * 3) = xs.take (t * 3) ++ [a, b, c]) := Lib.hid (by rw [h3, List.append_assoc, List.append_assoc]; rfl)
      have HM := Lib.hid (And.intro ma (And.intro mb mc))
      have ha64 := H64.out a ma
      have hb64 := H64.out b mb
      have hc64 := H64.out c mc
      clear h0 h1 h2 h3 ma mb mc
      have H2 := Hr.alloc #[.int .u64 (a : Int), .int .u64 (b : Int), .int .u64 (c : Int)] 29
      have d0 := H2.cell 0 rfl
      have d1 := H2.cell 1 rfl
      have d2 := H2.cell 2 rfl
      by_cases hfi : a ≤ 4194304 ∧ b ≤ 4194304 ∧ c ≤ 4194304
      · obtain ⟨f0, f1, f2⟩ := hfi
        have HN : Hid (Fine (xs.take ((t + 1) * 3))) := Lib.hid (by
          rw [HB3.out]
          intro x hx
          rcases List.mem_append.1 hx with hx | hx
          · exact Q3.out x hx
          · simp at hx
            omega)
        go_wp2_with fail
        all_goals first
          | (exfalso; omega)
          | (go_roundg (n - (t + 1))
             case rel => exact ⟨t + 1, Lib.hid ⟨by omega, rfl, HN.out⟩, by go_num, H2.tail⟩
             case measure => omega)
      · have HE : Hid (rfitE n xs = 2) := Lib.hid (by
          rw [HFE.out, if_neg]
          intro hf
          exact hfi ⟨hf a HM.out.1, hf b HM.out.2.1, hf c HM.out.2.2⟩)
        go_wp2_with fail
        all_goals first
          | (exfalso; omega)
          | (go_ret2
             exact ⟨_, rfl, .inl ⟨by rw [HE.out]; decide, by rw [HE.out]; rfl, H2.tail⟩⟩)
    · obtain rfl : t = n := by omega
      have hti : ¬ (t : Int) < (t : Int) := by omega
      have hfine := Q3.out
      rw [List.take_of_length_le (by rw [HL.out]; exact Nat.le_refl _)] at hfine
      have HE : Hid (rfitE t xs = 0) := Lib.hid (by rw [HFE.out, if_pos hfine])
      have PC := rsplain_calls hfine hn hrd Hr
      have CC := Lib.hid fun (w' : World) (X : HP) (h : Sep w' (X :: F)) => classed_calls (v := .slice va t vc) hfine hn hrd.cons h
      have HRS : Hid (resB xs = if (rclsB xs).length < (rplainB xs).length then rclsB xs else rplainB xs) := Lib.hid rfl
      generalize rclsB xs = cd at *
      generalize rplainB xs = pd at *
      clear hfine Q3
      go_wp2_with fail
      refine PC.mono ?_
      rintro _ w5 ⟨_, rfl, H5⟩
      obtain ⟨pa, pc, rfl⟩ := H5.row_form
      clear PC Hr
      have C2 := CC.out _ _ H5
      go_wp2_with fail
      refine C2.mono ?_
      rintro _ w6 ⟨_, rfl, ca, cc, rfl, hne, H6⟩
      obtain ⟨cad, rfl⟩ := Option.ne_none_iff_exists'.1 hne
      clear C2 H5 hne CC
      by_cases hlt : cd.length < pd.length
      · have hlti : (cd.length : Int) < (pd.length : Int) := by omega
        have HR : Hid (resB xs = cd) := Lib.hid (by rw [HRS.out, if_pos hlt])
        go_wp2_with fail
        go_ret2
        exact ⟨_, rfl, .inr ⟨HE.out, _, _, by rw [HR.out]; rfl, by rw [HR.out]; exact H6.swap.tail⟩⟩
      · have hlti : ¬ (cd.length : Int) < (pd.length : Int) := by omega
        have HR : Hid (resB xs = pd) := Lib.hid (by rw [HRS.out, if_neg hlt])
        go_wp2_with fail
        go_ret2
        exact ⟨_, rfl, .inr ⟨HE.out, _, _, by rw [HR.out]; rfl, by rw [HR.out]; exact H6.tail⟩⟩

end Go.Proofs.Ytbhpcpcpccmacaa
