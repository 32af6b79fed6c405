/- word: Cost. -/
import Derived.Test.YtmihlbecmagmbaaWord8
namespace Go.Proofs.Ytmihlbecmagmbaa
open Go.RowKit Go.Shelf

/-- A word's bits. -/
def wbits (l : List UInt8) : List Bool := l.flatMap codeL
def letters (l : List UInt8) : Bool := l.all fun c => (kindOf c).isSome
def costI (l : List UInt8) : Int := if letters l then ((wbits l).length : Int) else -1
theorem wbits_snoc (l : List UInt8) (c : UInt8) : wbits (l ++ [c]) = wbits l ++ codeL c := by simp [wbits]
theorem codeL_none {c : UInt8} (h : kindOf c = none) : codeL c = [] := by unfold codeL; rw [h]
theorem codeL_some {c : UInt8} {k : Lt} (h : kindOf c = some k) : codeL c = k.bits := by unfold codeL; rw [h]
theorem codeL_le (c : UInt8) : (codeL c).length ≤ 3 := by
  unfold codeL
  cases kindOf c with
  | none => simp
  | some k => cases k <;> decide
theorem codeL_pos {c : UInt8} {k : Lt} (h : kindOf c = some k) : 0 < (codeL c).length := by
  rw [codeL_some h]; cases k <;> decide
theorem wbits_le : ∀ l : List UInt8, (wbits l).length ≤ 3 * l.length
  | [] => by simp [wbits]
  | c :: l => by
    have := wbits_le l
    have := codeL_le c
    simp only [wbits, List.flatMap_cons, List.length_append, List.length_cons] at *
    omega

set_option maxRecDepth 100000 in
set_option maxHeartbeats 1000000 in
theorem wcost_calls {l : List UInt8} {R : List HP} {w : World} (hlen : l.length ≤ 100000) (H : Sep w R) :
    Calls Try.prog 17 #[.string (str l)] w fun e w' => e = .returned (.int .i64 (costI l)) ∧ Sep w' R := by
  have hcv := fun w => Lib.run_convert_string_bytes (P := Try.prog) w 9 40 5 (str l) (u := .string) Try.underlying9 Try.underlying40 Try.underlying5
  have hss := str_size l
  obtain ⟨o, H1, hread⟩ := H.conv 5 l
  go_enter Try.func17, Try.ntmps17
  go_wp2_with fail
  generalize Lib.bytesWorld w 5 (str l) = w1 at *
  generalize grownCap w l.length 0 5 = cap at *
  generalize w.heap.size = g at *
  have hrd := hread w1 R cap H1
  clear hread hcv H
  go_loopg [3, 11] l.length (fun gk s i wr => wr = w1 ∧ ∃ t n : Nat, Hid (t ≤ l.length ∧ gk = l.length - t ∧ n ≤ 3 * t) ∧ Hid (n = (wbits (l.take t)).length ∧ letters (l.take t) = true) ∧ s = .int .i64 (n : Int) ∧ i = .int .i64 (t : Int))
  case atStart => exact ⟨rfl, 0, 0, Lib.hid ⟨by omega, rfl, by omega⟩, Lib.hid ⟨rfl, rfl⟩, rfl, rfl⟩
  case round =>
    obtain ⟨rfl, t, n, hq, hh, rfl, rfl⟩ := hrel
    obtain ⟨q1, q2, q3⟩ := hq.out
    clear hq
    by_cases c : t < l.length
    · have c1 := hrd.cell t (by rw [List.getElem?_map, List.getElem?_eq_getElem c]; rfl)
      rw [Nat.zero_add] at c1
      have hta := List.take_succ_eq_append_getElem c
      unfold lv at c1
      have hcc := fun w => code_calls (c := l[t]) (w := w)
      have hle := codeL_le l[t]
      have HC := Lib.hid hcc
      clear hcc
      cases hk : kindOf l[t] with
      | none =>
        have hz : letters l = false := by
          unfold letters
          rw [← Bool.not_eq_true, List.all_eq_true]
          intro h
          have := h _ (List.getElem_mem c)
          rw [hk] at this; cases this
        have HZ : Hid (costI l = -1) := Lib.hid (by unfold costI; rw [hz]; rfl)
        have hcl := codeL_none hk
        clear hz hk hta hle
        rw [hcl] at HC
        clear hcl
        generalize codeV l[t] = V at *
        generalize l[t].toNat = x at *
        go_wp2_with fail
        refine (HC.out _).mono ?_
        rintro e w2 ⟨rfl, rfl⟩
        go_wp2_with fail
        go_ret
        exact ⟨by rw [HZ.out]; rfl, H1.tail⟩
      | some k =>
        have hpos := codeL_pos hk
        have HN : Hid (n + (codeL l[t]).length = (wbits (l.take (t + 1))).length ∧ letters (l.take (t + 1)) = true) := Lib.hid (by
          obtain ⟨h1, h2⟩ := hh.out
          rw [hta, wbits_snoc, List.length_append, h1]
          refine ⟨rfl, ?_⟩
          unfold letters at h2 ⊢
          rw [List.all_append, h2]
          simp [hk])
        clear hk hta
        generalize codeV l[t] = V at *
        generalize l[t].toNat = x at *
        generalize (codeL l[t]).length = z at *
        have e1 : ((z : Int) == 0) = false := by simp; omega
        go_wp2_with fail
        refine (HC.out _).mono ?_
        rintro e w2 ⟨rfl, rfl⟩
        go_wp2_with fail
        go_roundg (l.length - (t + 1))
        case rel => exact ⟨rfl, t + 1, n + z, Lib.hid ⟨by omega, rfl, by omega⟩, HN, by go_num, by go_num⟩
        case measure => omega
    · obtain rfl : t = l.length := by omega
      obtain ⟨h1, h2⟩ := hh.out
      rw [List.take_length] at h1 h2
      have HZ : Hid (costI l = (n : Int)) := Lib.hid (by unfold costI; rw [h2, h1]; rfl)
      clear h1 h2 hh
      go_wp2_with fail
      go_ret
      exact ⟨by rw [HZ.out]; rfl, H1.tail⟩

end Go.Proofs.Ytmihlbecmagmbaa
