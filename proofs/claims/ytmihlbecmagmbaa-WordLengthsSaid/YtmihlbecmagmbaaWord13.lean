/- word: Encode; reference 22: Code, Bits. -/
import Derived.Test.YtmihlbecmagmbaaWord11
import Derived.Test.YtmihlbecmagmbaaWord12
import Derived.Test.YtmihlbecmagmbaaBin
namespace Go.Proofs.Ytmihlbecmagmbaa
open Go.RowKit Go.Shelf

theorem st_letters : ∀ {l : List UInt8} {i t : List Int}, st l i = some t → letters l = true
  | [], _, _, _ => rfl
  | c :: l, i, t, h => by
    obtain ⟨k, s, h1, h2, _⟩ := st_cons.1 h
    have := st_letters h2
    unfold letters at this ⊢
    simp [h1, this]
theorem right_cost {l : List UInt8} (h : rightB l = true) : costI l = ((wbits l).length : Int) := by
  unfold costI
  rw [st_letters (rightB_iff.1 h).1]; rfl
theorem code_bits (c : UInt8) : valBits (codeV c) (codeL c).length = codeL c ∧ codeV c < 2 ^ (codeL c).length := by
  unfold codeV codeL
  cases kindOf c with
  | none => exact ⟨rfl, by decide⟩
  | some k => cases k <;> exact ⟨by rfl, by decide⟩

set_option maxRecDepth 100000 in
set_option maxHeartbeats 2000000 in
theorem wencode_ok {q : Nat} {l : List UInt8} {lw : List Bool} {R : List HP} {w : World} (hr : rightB l = true) (hlen : l.length ≤ 1000) (hlw : lw.length ≤ 100000) (H : Sep w (Wr q lw :: R)) :
    Calls Try.prog 23 #[.string (str l), .pointer (some ⟨q, 0, none⟩)] w fun e w' => e = .returned (.int .i64 0) ∧ Sep w' (Wr q (lw ++ wbits l) :: R) := by
  have hcv := fun w => Lib.run_convert_string_bytes (P := Try.prog) w 9 40 5 (str l) (u := .string) Try.underlying9 Try.underlying40 Try.underlying5
  have hss := str_size l
  have h0 := fun w1 (h : Sep w1 (Wr q lw :: R)) => right_calls hlen h
  rw [hr] at h0
  have h1 := fun w1 (h : Sep w1 (Wr q lw :: R)) => wcost_calls (l := l) (by omega) h
  rw [right_cost hr] at h1
  have hwl := wbits_le l
  have G0 := Lib.hid h0
  have G1 := Lib.hid h1
  clear h0 h1
  go_enter Try.func23, Try.ntmps23
  go_wp2_with fail
  refine (G0.out _ H).mono ?_
  rintro e w1 ⟨rfl, H1⟩
  clear H
  go_wp2_with fail
  refine (len_calls H1).mono ?_
  rintro e w2 ⟨rfl, rfl⟩
  go_wp2_with fail
  refine (G1.out _ H1).mono ?_
  rintro e w2 ⟨rfl, H2⟩
  have hwl2 : (wbits l).length ≤ 3000 := by omega
  obtain ⟨o, H3, hread⟩ := H2.conv 5 l
  clear hwl H1
  have hm1 : (lw.length : Int) + ((wbits l).length : Int) ≤ 33554432 := by omega
  have hm2 : ¬ 8192 < l.length := by omega
  go_wp2_with fail
  generalize Lib.bytesWorld w2 5 (str l) = w3 at *
  generalize grownCap w2 l.length 0 5 = cap at *
  generalize w2.heap.size = g at *
  have HRD := Lib.hid hread
  clear hread hcv H2
  go_loopg [32] l.length (fun gk i wr => ∃ t : Nat, Hid (t ≤ l.length ∧ gk = l.length - t) ∧ i = .int .i64 (t : Int) ∧ Sep wr (HP.obj g o :: Wr q (lw ++ wbits (l.take t)) :: R))
  case atStart => exact ⟨0, Lib.hid ⟨by omega, rfl⟩, rfl, by rw [List.take_zero]; simpa [wbits] using H3⟩
  case round =>
    clear H3
    obtain ⟨t, hq, rfl, Hr⟩ := hrel
    obtain ⟨q1, q2⟩ := hq.out
    clear hq
    by_cases c : t < l.length
    · have hrd := HRD.out wr _ cap Hr
      have c1 := hrd.cell t (by rw [List.getElem?_map, List.getElem?_eq_getElem c]; rfl)
      rw [Nat.zero_add] at c1
      unfold lv at c1
      have hta := List.take_succ_eq_append_getElem c
      have hwt : wbits (l.take (t + 1)) = wbits (l.take t) ++ codeL l[t] := by rw [hta, wbits_snoc]
      have hwl3 := wbits_le (l.take t)
      rw [List.length_take] at hwl3
      obtain ⟨hb1, hb2⟩ := code_bits l[t]
      have hle := codeL_le l[t]
      have hcc := fun w => code_calls (c := l[t]) (w := w)
      have hput := put_ok (by omega) hb2 (by rw [List.length_append]; omega) Hr.swap
      rw [hb1, List.append_assoc, ← hwt] at hput
      have HC := Lib.hid hcc
      have HP1 := Lib.hid hput
      clear hcc hput hrd hta hwt hb1 hb2 hwl3
      generalize codeV l[t] = V at *
      generalize (codeL l[t]).length = z at *
      generalize l[t].toNat = x at *
      go_wp2_with fail
      refine (HC.out _).mono ?_
      rintro e w4 ⟨rfl, rfl⟩
      go_wp2_with fail
      refine HP1.out.mono ?_
      rintro e w5 ⟨rfl, H5⟩
      go_wp2_with fail
      go_roundg (l.length - (t + 1))
      case rel => exact ⟨t + 1, Lib.hid ⟨by omega, rfl⟩, by go_num, H5.swap⟩
      case measure => omega
    · obtain rfl : t = l.length := by omega
      rw [List.take_length] at Hr
      go_wp2_with fail
      go_ret
      exact ⟨rfl, Hr.tail⟩

set_option maxRecDepth 100000 in
set_option maxHeartbeats 2000000 in
theorem wencode_not {p : Option Addr} (hp : p ≠ none) {l : List UInt8} {R : List HP} {w : World} (hr : rightB l = false) (hlen : l.length ≤ 1000) (H : Sep w R) :
    Calls Try.prog 23 #[.string (str l), .pointer p] w fun e w' => e = .returned (.int .i64 3) ∧ Sep w' R := by
  have h0 := right_calls hlen H
  rw [hr] at h0
  obtain ⟨a, rfl⟩ : ∃ a, p = some a := by cases p with
    | none => exact absurd rfl hp
    | some a => exact ⟨a, rfl⟩
  go_enter Try.func23, Try.ntmps23
  go_wp2_with fail
  refine h0.mono ?_
  rintro e w1 ⟨rfl, H1⟩
  go_wp2_with fail
  go_ret
  exact ⟨rfl, H1⟩

set_option maxRecDepth 100000 in
set_option maxHeartbeats 2000000 in
theorem wencode_nil {l : List UInt8} {w : World} :
    Calls Try.prog 23 #[.string (str l), .pointer none] w fun e w' => e = .returned (.int .i64 1) ∧ w = w' := by
  go_enter Try.func23, Try.ntmps23
  go_wp2_with fail
  go_ret
  exact ⟨rfl, rfl⟩

/-- The reference's code of a letter: what is none has that of E. -/
def codeR (c : UInt8) : List Bool := match kindOf c with
  | none => [true, true, true]
  | some k => k.bits

set_option maxRecDepth 100000 in
set_option maxHeartbeats 1000000 in
theorem rcode_calls {c : UInt8} {w : World} :
    Calls Try.prog 21 #[.int .u8 (c.toNat : Int)] w fun e w' => e = .returned (.string (bitStr (codeR c))) ∧ w = w' := by
  have hk := kind_cases c
  have hc : codeR c = match kindOf c with | none => [true, true, true] | some k => k.bits := rfl
  go_enter Try.func21, Try.ntmps21
  generalize codeR c = L at *
  generalize c.toNat = x at *
  rcases hk with ⟨hk, rfl⟩ | ⟨hk, rfl⟩ | ⟨hk, rfl⟩ | ⟨hk, rfl⟩ | ⟨hk, rfl⟩ | ⟨hk, h1, h2, h3, h4, h5⟩
  all_goals (rw [hk] at hc; subst hc)
  · go_wp2_with fail
    go_ret
    exact ⟨rfl, rfl⟩
  · go_wp2_with fail
    go_ret
    exact ⟨rfl, rfl⟩
  · go_wp2_with fail
    go_ret
    exact ⟨rfl, rfl⟩
  · go_wp2_with fail
    go_ret
    exact ⟨rfl, rfl⟩
  · go_wp2_with fail
    go_ret
    exact ⟨rfl, rfl⟩
  · have e1 := int_beq h1
    have e2 := int_beq h2
    have e3 := int_beq h3
    have e4 := int_beq h4
    go_wp2_with fail
    go_ret
    exact ⟨rfl, rfl⟩

set_option maxRecDepth 100000 in
set_option maxHeartbeats 1000000 in
theorem rbits22_calls {l : List UInt8} {w : World} (hl : letters l = true) (hlen : l.length ≤ 1000) :
    Calls Try.prog 26 #[.string (str l)] w fun e w' => e = .returned (.string (bitStr (wbits l))) ∧ w = w' := by
  have hss := str_size l
  have HCR : Hid (∀ x ∈ l, codeR x = codeL x) := Lib.hid fun x hx => by
    unfold letters at hl
    rw [List.all_eq_true] at hl
    have h3 := hl _ hx
    unfold codeR codeL
    cases hk : kindOf x with
    | none => rw [hk] at h3; cases h3
    | some k => rfl
  clear hl
  go_enter Try.func26, Try.ntmps26
  go_wp2_with fail
  go_loopg [3, 4] l.length (fun gk s i wr => wr = w ∧ ∃ t : Nat, Hid (t ≤ l.length ∧ gk = l.length - t) ∧ s = .string (bitStr (wbits (l.take t))) ∧ i = .int .i64 (t : Int))
  case atStart => exact ⟨rfl, 0, Lib.hid ⟨by omega, rfl⟩, rfl, rfl⟩
  case round =>
    obtain ⟨rfl, t, hq, rfl, rfl⟩ := hrel
    obtain ⟨q1, q2⟩ := hq.out
    clear hq
    by_cases c : t < l.length
    · have hi : (t : Int) < ((str l).size : Int) := by rw [hss]; omega
      have h2 : t < (str l).size := by omega
      have hat := str_at c h2
      have hta := List.take_succ_eq_append_getElem c
      have hwt : wbits (l.take (t + 1)) = wbits (l.take t) ++ codeL l[t] := by rw [hta]; exact wbits_snoc _ _
      have hwl := wbits_le (l.take t)
      rw [List.length_take] at hwl
      have hz1 := bitStr_size (wbits (l.take t))
      have hcr : codeR l[t] = codeL l[t] := HCR.out _ (List.getElem_mem c)
      have hle := codeL_le l[t]
      have hz2 := bitStr_size (codeL l[t])
      have hcc := fun w => rcode_calls (c := l[t]) (w := w)
      rw [hcr] at hcc
      have hcat := bitStr_append (wbits (l.take t)) (codeL l[t])
      rw [← hwt] at hcat
      have HC := Lib.hid hcc
      have HCT := Lib.hid hcat
      have hb1 : (bitStr (wbits (l.take t))).size ≤ 3000 := by omega
      have hb2 : (bitStr (codeL l[t])).size ≤ 3 := by omega
      clear hcc hcat hwt hta hwl hz1 hz2 hcr hle
      generalize bitStr (wbits (l.take t)) = A at *
      generalize bitStr (codeL l[t]) = B at *
      generalize l[t] = x at *
      go_wp2_with fail
      refine (HC.out _).mono ?_
      rintro e w4 ⟨rfl, rfl⟩
      go_wp2_with fail
      go_roundg (l.length - (t + 1))
      case rel => exact ⟨rfl, t + 1, Lib.hid ⟨by omega, rfl⟩, by rw [← HCT.out], by go_num⟩
      case measure => omega
    · obtain rfl : t = l.length := by omega
      have hi : ¬ (l.length : Int) < ((str l).size : Int) := by rw [hss]; omega
      rw [List.take_length]
      go_wp2_with fail
      go_ret
      exact ⟨rfl, rfl⟩

end Go.Proofs.Ytmihlbecmagmbaa
