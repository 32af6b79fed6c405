import Derived.Test.YticeolbagfaofaaOrd11
import Derived.Test.YticeolbagfaofaaStr
import Derived.Test.YticeolbagfaofaaRef1d
namespace Go.Proofs.Yticeolbagfaofaa
open Go.RowKit

theorem bits_iv (l : List Bool) : l.map bitv = (l.map fun b => (b.toNat : Int)).map iv := by
  rw [List.map_map]; rfl

set_option maxRecDepth 100000 in
set_option maxHeartbeats 4000000 in
theorem law_OrderBits (a : Option Addr) (len cap : Nat) (z : List Int) {w : World} (hrow : IsRow .i64 w a len cap z) :
    Calls Try.prog 3 #[.slice a len cap] w fun e w' => e = .returned (.bool true) ∧ Below w.heap.size w w' := by
  obtain ⟨xs, hl, -, hrd, -⟩ := hrow.ints
  subst hl
  clear hrow
  have H := Sep.start w
  have HRD : Hid (Reads [HP.old w.heap.size w] (.slice a xs.length cap) xs.length 1 (xs.map iv)) := Lib.hid (Reads.old hrd)
  clear hrd
  generalize hB : HP.old w.heap.size w = O at H HRD
  have HB := Lib.hid hB; clear hB
  by_cases hfew : 40 < xs.length
  · go_enter Try.func3, Try.ntmps3
    go_wp2_with fail
    refine (awake25 H).mono ?_
    rintro e w1 ⟨rfl, H1⟩
    go_wp2_with fail
    refine (awake25 H1).mono ?_
    rintro e w2 ⟨rfl, H2⟩
    go_wp2_with fail
    go_ret
    subst HB
    exact ⟨rfl, H2.below⟩
  go_enter Try.func3, Try.ntmps3
  go_wp2_with fail
  refine (awake25 H).mono ?_
  rintro e w1 ⟨rfl, H1⟩
  clear H
  go_wp2_with fail
  refine (rright_calls (by omega) (HRD.out _ H1)).mono ?_
  rintro e w2 ⟨rfl, n2, rfl⟩
  have H2 := H1.drewN n2
  generalize w1.drewN n2 = w2 at H2 ⊢
  clear H1
  cases hr : rightB xs with
  | false =>
    clear hr
    go_wp2_with fail
    refine (awake25 H2).mono ?_
    rintro e w3 ⟨rfl, H3⟩
    go_wp2_with fail
    go_ret
    subst HB
    exact ⟨rfl, H3.below⟩
  | true =>
  have HR := Lib.hid hr
  clear hr
  have hb1 : (encB xs).length ≤ 2520 := by rw [encB_length]; have := costN_le xs.length (by omega); omega
  have hcc := fun w1 => cost_calls (n := (xs.length : Int)) (by omega) (by omega) (w := w1)
  rw [Int.toNat_natCast, ← encB_length] at hcc
  have HCC := Lib.hid hcc
  have hen := fun (q : Nat) (w1 : World) (v : Value) (R : List HP) (hv : Reads R v xs.length 1 (xs.map iv)) (h : Sep w1 (Wr q [] :: R)) => encode_ok HR.out (by omega) (by simp) hv h
  have HEN := Lib.hid hen
  have hbt := fun (w1 : World) (R : List HP) (hv : Reads R (.slice a xs.length cap) xs.length 1 (xs.map iv)) (h : Sep w1 R) => bits25_calls (by omega) hv h
  have HBT := Lib.hid hbt
  clear hcc hen hbt
  generalize encB xs = E at *
  have H3 := Wr.new H2
  have h63 : 0 + xs.length ≤ maxLen := by unfold maxLen; omega
  have hby : (0 + xs.length) * 8 ≤ 140737488355328 := by omega
  have hq : (w2.alloc (.cells #[.slice none 0 0, .int .i64 0] 27)).heap.size = w2.heap.size + 1 := Array.size_push _
  have HE : Sep ((w2.alloc (.cells #[.slice none 0 0, .int .i64 0] 27)).alloc (.cells #[] 3)) (HP.row 3 1 (.slice (some ⟨w2.heap.size + 1, 0, none⟩) 0 0) 0 [] :: Wr w2.heap.size [] :: [O]) := by
    rw [← hq]
    exact Sep.row_shut (H3.alloc #[] 3) (Nat.le_refl _) (by unfold maxLen; omega) rfl rfl
  clear hq
  generalize hW4 : (w2.alloc (.cells #[.slice none 0 0, .int .i64 0] 27)).alloc (.cells #[] 3) = W4 at HE
  have hrd1 := HRD.out _ HE.tail.tail
  subst hW4
  go_wp2_with ((at_builtin; go_must (refine wpList_append_src rfl (.tmp 22) (.tmp 23) 22 rfl 3 (.int .i64 0) 1 8 Try.underlying22 info_iv rfl (by decide) (.slice (some ⟨w2.heap.size + 1, 0, none⟩) 0 0) 0 [] rfl HE (.slice a xs.length cap) _ _ rfl hrd1 (iv_one _) h63 hby ?_); intro v4 w4 H4; rw [Nat.zero_add, List.nil_append] at H4; obtain ⟨va, vc, hv4⟩ := H4.row_form; subst hv4))
  clear HE hrd1 H3 H2 h63 hby
  generalize w2.heap.size = q at H4 ⊢
  refine (HEN.out _ _ _ _ Reads.row H4.swap).mono ?_
  rintro e w5 ⟨rfl, H5⟩
  rw [List.nil_append] at H5
  clear H4
  go_wp2_with fail
  refine (HBT.out _ _ HRD.out.cons.cons H5).mono ?_
  rintro e w6 ⟨vw, rfl, H6⟩
  obtain ⟨wa, wc, rfl⟩ := H6.row_form
  clear H5
  go_wp2_with fail
  refine (bytes_ok (by omega) H6.swap).mono ?_
  rintro e w7 ⟨vb, rfl, H7⟩
  obtain ⟨ba, bc, rfl⟩ := H7.row_form
  clear H6
  have hpl := pk_length E
  have hpb : ∀ x ∈ pk E, x < 256 := by
    intro x hx
    unfold pk pkN at hx
    simp only [List.mem_map, List.mem_range] at hx
    obtain ⟨j, _, rfl⟩ := hx
    exact byteAt_lt E j
  have HPB := Lib.hid hpb
  have hpl2 : (pk E).length ≤ 400 := by omega
  have hpl3 : E.length ≤ 8 * (pk E).length := by omega
  clear hpl hpb
  go_wp2_with fail
  refine (all_calls (by omega) HPB.out Reads.row H7).mono ?_
  rintro e w8 ⟨vl, rfl, H8⟩
  clear H7
  have hap := all_pk E
  have HAP := Lib.hid hap
  clear hap
  generalize allBits (pk E) = A at *
  generalize (pk E).length = pl at *
  obtain ⟨la, lc, rfl⟩ := H8.row_form
  -- [all, bytes, Wr, want, own, O]
  go_wp2_with fail
  refine (len_calls H8.tail.tail).mono ?_
  rintro e w9 ⟨rfl, rfl⟩
  go_wp2_with fail
  refine (HCC.out _).mono ?_
  rintro e w9 ⟨rfl, rfl⟩
  have hown : RdS w8 (.slice va xs.length vc) xs.length 1 (xs.map iv) := H8.tail.tail.tail.tail.rd
  go_wp2_with fail
  refine (ints_same (by omega) hown (HRD.out _ H8.tail.tail.tail.tail.tail)).mono ?_
  rintro e w9 ⟨rfl, n9, rfl⟩
  have H9 := H8.drewN n9
  generalize w8.drewN n9 = w9 at H9 ⊢
  clear H8 hown
  have hfit := H9.row_fits _ _ _ rfl
  have hrA : RdS w9 (.slice la E.length lc) E.length 1 (E.map bitv) := by
    have h := H9.rd
    by_cases h0 : 8 * pl = 0
    · have hE : E.length = 0 := by omega
      have hE2 : E = [] := List.eq_nil_of_length_eq_zero hE
      subst hE2
      rcases h.2 with ⟨h1, _⟩ | ⟨ad, c2, h1, _⟩
      · simp only [Value.slice.injEq] at h1
        obtain ⟨rfl, -, rfl⟩ := h1
        exact ⟨rfl, .inl ⟨rfl, rfl⟩⟩
      · simp only [Value.slice.injEq] at h1
        obtain ⟨rfl, -, rfl⟩ := h1
        exact ⟨rfl, .inr ⟨ad, _, rfl, fun j u hu => by simp at hu⟩⟩
    · obtain ⟨g, o, cp, he⟩ := h.open h0
      simp only [Value.slice.injEq, true_and] at he
      obtain ⟨rfl, rfl⟩ := he
      have h2 := h.take (k := E.length) hpl3
      rw [← List.map_take, HAP.out] at h2
      exact h2
  have hrW : RdS w9 (.slice wa E.length wc) E.length 1 (E.map bitv) := H9.tail.tail.tail.rd
  rw [bits_iv] at hrA hrW
  have hEl : (E.map fun b => (b.toNat : Int)).length = E.length := List.length_map ..
  have hrA2 : RdS w9 (.slice la E.length lc) (E.map fun b => (b.toNat : Int)).length 1 ((E.map fun b => (b.toNat : Int)).map iv) := by rw [hEl]; exact hrA
  have hrW2 : RdS w9 (.slice wa E.length wc) (E.map fun b => (b.toNat : Int)).length 1 ((E.map fun b => (b.toNat : Int)).map iv) := by rw [hEl]; exact hrW
  have hEb : (E.map fun b => (b.toNat : Int)).length ≤ 100000 := by rw [hEl]; omega
  have hcapE : E.length ≤ lc := by omega
  have HF := Lib.hid (ints_same hEb hrA2 hrW2)
  clear hrA hrW hEl hrA2 hrW2 hEb hfit
  go_wp2_with fail
  refine HF.out.mono ?_
  rintro e w10 ⟨rfl, n10, rfl⟩
  have H10 := H9.drewN n10
  go_wp2_with fail
  go_ret
  subst HB
  exact ⟨rfl, H10.tail.tail.tail.tail.tail.below⟩

end Go.Proofs.Yticeolbagfaofaa
