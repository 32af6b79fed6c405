/- Reference 22: Decode. -/
import Derived.Test.YtmihlbecmagmbaaWord14
import Derived.Test.YtmihlbecmagmbaaWord11
import Derived.Laws.RangeString
namespace Go.Proofs.Ytmihlbecmagmbaa
open Go.RowKit Go.Shelf

def cands : List UInt8 := [67, 83, 82, 76, 69]
theorem cands_str : (⟨#[67, 83, 82, 76, 69]⟩ : ByteArray) = str cands := rfl
theorem cands_ascii {pos : Nat} (h : pos < 5) : (cands.getD pos 0).toNat < 128 := by
  match pos, h with
  | 0, _ => decide
  | 1, _ => decide
  | 2, _ => decide
  | 3, _ => decide
  | 4, _ => decide
theorem cands_next {w : World} {pos : Nat} (ty : TypeId) (h : pos < 5) : (Instr.next (.pointer (some ⟨w.heap.size, 0, none⟩)) true ty).run Try.prog (w.iter ⟨#[67, 83, 82, 76, 69]⟩ pos) =
    .ok (.tuple #[.bool true, .int .i64 (pos : Int), .int .i32 ((cands.getD pos 0).toNat : Int)]) (w.iter ⟨#[67, 83, 82, 76, 69]⟩ (pos + 1)) := by
  have hs : pos < (str cands).size := by rw [str_size]; exact h
  have hc : pos < cands.length := h
  have e : (str cands)[pos]'hs = cands.getD pos 0 := by
    rw [str_at hc, List.getD, List.getElem?_eq_getElem hc]; rfl
  rw [cands_str, run_next_ascii (P := Try.prog) w (str cands) pos ty hs (by rw [e]; exact cands_ascii h), e]
theorem cands_end {w : World} (ty : TypeId) : (Instr.next (.pointer (some ⟨w.heap.size, 0, none⟩)) true ty).run Try.prog (w.iter ⟨#[67, 83, 82, 76, 69]⟩ 5) = .ok (.tuple #[.bool false]) (w.iter ⟨#[67, 83, 82, 76, 69]⟩ 5) :=
  run_next_end (P := Try.prog) w _ 5 ty (by decide)
theorem encode_ascii {x : UInt8} (h : x.toNat < 128) : Utf8.encode (x.toNat : Int) = str [x] := by
  have hv : Utf8.valid (x.toNat : Int) = true := by
    unfold Utf8.valid
    simp only [Bool.or_eq_true, Bool.and_eq_true, decide_eq_true_eq]
    left; omega
  unfold Utf8.encode
  simp only [hv, if_true, Int.toNat_natCast]
  rw [if_pos h]
  apply ba_ext
  simp [str]

/-- Those of the letters whose code it is. -/
def hits (B : List Bool) (pos : Nat) : List UInt8 := (cands.take pos).filter fun x => codeR x == B
theorem hits_succ {B : List Bool} {pos : Nat} (h : pos < 5) : hits B (pos + 1) = hits B pos ++ (if codeR (cands.getD pos 0) = B then [cands.getD pos 0] else []) := by
  have hc : pos < cands.length := h
  unfold hits
  rw [List.take_succ_eq_append_getElem hc, List.filter_append]
  congr 1
  rw [List.getD, List.getElem?_eq_getElem hc, Option.getD_some]
  by_cases e : codeR cands[pos] = B
  · rw [if_pos e]; simp [e]
  · rw [if_neg e]; simp [e]
theorem hits_le (B : List Bool) (pos : Nat) : (hits B pos).length ≤ 5 := by
  unfold hits
  have := List.length_filter_le (fun x => codeR x == B) (cands.take pos)
  rw [List.length_take] at this
  have h5 : cands.length = 5 := rfl
  omega
theorem nextL_hits {s : List Bool} {c : UInt8} {n : Nat} (h : nextL s = some (c, n)) : hits (s.take n) 5 = [c] := by
  rcases s with _ | ⟨_ | _, _ | ⟨x, _ | ⟨y, s⟩⟩⟩ <;> simp [nextL] at h
  all_goals obtain ⟨rfl, rfl⟩ := h
  · decide
  · show hits [false] 5 = _
    decide
  · show hits [false] 5 = _
    decide
  · show hits [true, x, y] 5 = _
    cases x <;> cases y <;> decide
theorem nextL_head {s : List Bool} {c : UInt8} {n : Nat} (h : nextL s = some (c, n)) : s.getD 0 false = decide (n ≠ 1) ∧ (n = 1 ∨ n = 3) := by
  rcases s with _ | ⟨_ | _, _ | ⟨x, _ | ⟨y, s⟩⟩⟩ <;> simp [nextL] at h
  all_goals obtain ⟨rfl, rfl⟩ := h
  · exact ⟨rfl, .inl rfl⟩
  · exact ⟨rfl, .inl rfl⟩
  · exact ⟨rfl, .inl rfl⟩
  · exact ⟨rfl, .inr rfl⟩
theorem nextL_none {s : List Bool} (h : nextL s = none) (hs : s ≠ []) : s.getD 0 false = true ∧ s.length < 3 := by
  rcases s with _ | ⟨_ | _, _ | ⟨x, _ | ⟨y, s⟩⟩⟩ <;> simp [nextL] at h hs ⊢
theorem rbit_zero {l : List Bool} {k : Nat} (h : k < l.length) (h2 : k < (bitStr l).size) : ((((bitStr l)[k]).toNat : Int) == 48) = !l[k] := by
  have : (bitStr l)[k] = chr l[k] := by
    show (bitStr l).data[k] = _
    simp [bitStr]
  rw [this]
  cases l[k] <;> rfl

set_option maxRecDepth 100000 in
set_option maxHeartbeats 4000000 in
theorem rdecode_calls {s : List Bool} {R : List HP} {w : World} (hl : s.length ≤ 250) (H : Sep w R) :
    Calls Try.prog 30 #[.string (bitStr s)] w fun e w' => e = .returned (.tuple #[.string (str (decA s).1), .int .i64 ((decA s).2.1 : Int), .int .i64 (decA s).2.2]) ∧ Sep w' R := by
  obtain ⟨F0, hF0⟩ : ∃ F0, F0 = s.length + 1 := ⟨_, rfl⟩
  have hdec : Hid (decA s = if begB (prs F0 1 s).1 then (if (prs F0 1 s).2.2 then ((prs F0 1 s).1, (prs F0 1 s).2.1, 0) else ([], 0, 4)) else ([], 0, 3)) := Lib.hid (by rw [hF0]; rfl)
  generalize decA s = D at *
  have hss := bitStr_size s
  go_enter Try.func30, Try.ntmps30
  go_wp2_with fail
  go_loopg [5, 6] F0 (fun gk wv av wr => ∃ (wl : List UInt8) (at' m : Nat), Hid (prs F0 1 s = (wl ++ (prs gk m (s.drop at')).1, at' + (prs gk m (s.drop at')).2.1, (prs gk m (s.drop at')).2.2)) ∧ Hid (s.length - at' < gk ∧ at' ≤ s.length ∧ wl.length ≤ at' ∧ m ≠ 0) ∧ Hid (miss 1 wl = some m ∧ begB wl = true) ∧ wv = .string (str wl) ∧ av = .int .i64 (at' : Int) ∧ Sep wr R)
  case atStart => exact ⟨[], 0, 1, Lib.hid (by simp), Lib.hid ⟨by omega, by omega, by simp, by omega⟩, Lib.hid ⟨rfl, by decide⟩, rfl, rfl, H⟩
  case round =>
    clear H
    obtain ⟨wl, at', m, hpr, hq, hms, rfl, rfl, Hr⟩ := hrel
    obtain ⟨q1, q2, q3, q4⟩ := hq.out
    clear hq
    obtain ⟨m1, rfl⟩ : ∃ m1, m = m1 + 1 := ⟨m - 1, by omega⟩
    obtain ⟨g1, rfl⟩ : ∃ g1, gk = g1 + 1 := ⟨gk - 1, by omega⟩
    cases hnx : nextL (s.drop at') with
    | none =>
      have hp0 : prs F0 1 s = (wl, at', false) := by rw [hpr.out]; simp [prs, hnx]
      have hD := hdec.out
      rw [hp0] at hD
      simp only [hms.out.2, if_true, Bool.false_eq_true, if_false] at hD
      subst hD
      clear hp0
      by_cases he : at' = s.length
      · have hi : ((bitStr s).size : Int) ≤ (at' : Int) := by rw [hss]; omega
        clear hnx
        go_wp2_with fail
        go_ret3
        exact ⟨rfl, Hr⟩
      · obtain ⟨h1, h2⟩ := nextL_none hnx (by intro e; have := congrArg List.length e; rw [List.length_drop] at this; simp at this; omega)
        rw [List.length_drop] at h2
        have hi : ¬ ((bitStr s).size : Int) ≤ (at' : Int) := by rw [hss]; omega
        have hi2 : (at' : Int) < ((bitStr s).size : Int) := by rw [hss]; omega
        have hk2 : at' < (bitStr s).size := by omega
        have hz := rbit_zero (l := s) (k := at') (by omega) hk2
        have hg : s[at']'(by omega) = true := by
          rw [List.getD, List.getElem?_drop, Nat.add_zero, List.getElem?_eq_getElem (by omega)] at h1
          simpa using h1
        rw [hg] at hz
        replace hz : (((((bitStr s)[at'])).toNat : Int) == 48) = false := hz
        have hj : ((bitStr s).size : Int) < (at' : Int) + 3 := by rw [hss]; omega
        clear hnx h1 hg
        go_wp2_with fail
        go_ret3
        exact ⟨rfl, Hr⟩
    | some cn =>
      obtain ⟨c, n⟩ := cn
      obtain ⟨n1, n2, n3, kk, hkk⟩ := nextL_some hnx
      obtain ⟨h1, h2⟩ := nextL_head hnx
      have hhit := nextL_hits hnx
      rw [List.length_drop] at n3
      have hi : ¬ ((bitStr s).size : Int) ≤ (at' : Int) := by rw [hss]; omega
      have hi2 : (at' : Int) < ((bitStr s).size : Int) := by rw [hss]; omega
      have hk2 : at' < (bitStr s).size := by omega
      have hz := rbit_zero (l := s) (k := at') (by omega) hk2
      have hg : s[at']'(by omega) = decide (n ≠ 1) := by
        rw [List.getD, List.getElem?_drop, Nat.add_zero, List.getElem?_eq_getElem (by omega)] at h1
        simpa using h1
      rw [hg] at hz
      have hex : (bitStr s).extract at' (at' + n) = bitStr ((s.drop at').take n) := by
        rw [bitStr_extract, List.drop_take]; congr 2; omega
      generalize (s.drop at').take n = B at *
      have hpn : Hid (prs F0 1 s = ((wl ++ [c]) ++ (prs g1 (m1 + takesN c) (s.drop (at' + n))).1, at' + n + (prs g1 (m1 + takesN c) (s.drop (at' + n))).2.1, (prs g1 (m1 + takesN c) (s.drop (at' + n))).2.2)) := Lib.hid (by
        rw [hpr.out]
        simp only [prs, hnx, List.drop_drop, List.append_assoc, List.cons_append, List.nil_append, Nat.add_assoc])
      have hmn : Hid (miss 1 (wl ++ [c]) = some (m1 + takesN c)) := Lib.hid (by
        rw [miss_append_of wl [c] 1 (m1 + 1) hms.out.1]
        unfold takesN
        simp [miss, hkk])
      clear hnx hpr hms hkk h1 hg
      obtain ⟨W0, rfl⟩ : ∃ W0, W0 = wr := ⟨_, rfl⟩
      rcases h2 with rfl | rfl
      · -- one bit
        have hj : ¬ ((bitStr s).size : Int) < (at' : Int) + 1 := by rw [hss]; omega
        replace hz : (((((bitStr s)[at'])).toNat : Int) == 48) = true := hz
        go_wp2_with fail
        try simp only [hex]
        go_loopg [5] 5 (fun gk wv wx => ∃ pos : Nat, Hid (pos ≤ 5 ∧ gk = 5 - pos) ∧ wv = .string (str (wl ++ hits B pos)) ∧ wx = W0.iter ⟨#[67, 83, 82, 76, 69]⟩ pos)
        case atStart => exact ⟨0, Lib.hid ⟨by omega, rfl⟩, by simp [hits], rfl⟩
        case round =>
          obtain ⟨pos, hq, rfl, rfl⟩ := hrel
          obtain ⟨p1, p2⟩ := hq.out
          clear hq
          by_cases c5 : pos < 5
          · have hnext := fun ty => cands_next (w := W0) ty c5
            have hcc := fun w => rcode_calls (c := cands.getD pos 0) (w := w)
            have hbe := bitStr_beq (codeR (cands.getD pos 0)) B
            have hsu := hits_succ (B := B) c5
            have has := cands_ascii c5
            have henc := encode_ascii has
            have hhl := hits_le B pos
            have hsz := str_size (wl ++ hits B pos)
            rw [List.length_append] at hsz
            have hsz1 : (str (wl ++ hits B pos)).size ≤ 300 := by omega
            have hHC := Lib.hid hcc
            generalize cands.getD pos 0 = x at *
            have hcat : str (wl ++ hits B pos) ++ str [x] = str (wl ++ (hits B pos ++ [x])) := by rw [str_append, List.append_assoc]
            have hz2 := str_size [x]
            have hx1 : (x.toNat : Int) % 256 = (x.toNat : Int) := by omega
            by_cases hcb : codeR x = B
            · rw [if_pos hcb] at hsu
              rw [decide_eq_true hcb] at hbe
              have HS := Lib.hid hsu
              have HCT := Lib.hid hcat
              clear hsu hcc hcat hcb hsz
              generalize str (wl ++ hits B pos) = A at *
              go_wp2_with fail
              refine (hHC.out _).mono ?_
              rintro e w2 ⟨rfl, rfl⟩
              go_wp2_with fail
              go_roundg (5 - (pos + 1))
              case rel => exact ⟨pos + 1, Lib.hid ⟨by omega, rfl⟩, by rw [HS.out, ← HCT.out], rfl⟩
              case measure => omega
            · rw [if_neg hcb, List.append_nil] at hsu
              rw [decide_eq_false hcb] at hbe
              have HS := Lib.hid hsu
              clear hsu hcc hcat hcb hsz
              go_wp2_with fail
              refine (hHC.out _).mono ?_
              rintro e w2 ⟨rfl, rfl⟩
              go_wp2_with fail
              go_roundg (5 - (pos + 1))
              case rel => exact ⟨pos + 1, Lib.hid ⟨by omega, rfl⟩, by rw [HS.out], rfl⟩
              case measure => omega
          · obtain rfl : pos = 5 := by omega
            have hend := fun ty => cands_end (w := W0) ty
            rw [hhit]
            have H1 : Sep (W0.iter ⟨#[67, 83, 82, 76, 69]⟩ 5) R := (Hr.obj_new (.stringIter ⟨#[67, 83, 82, 76, 69]⟩ 5)).tail
            have hbg := rbegins_calls (l := wl ++ [c]) (by simp; omega) H1
            cases hb : begB (wl ++ [c]) with
            | false =>
              have hD : D = ([], 0, 3) := by
                rw [hdec.out, hpn.out]
                have : begB ((wl ++ [c]) ++ (prs g1 (m1 + takesN c) (s.drop (at' + 1))).1) = false := by
                  cases h : begB ((wl ++ [c]) ++ (prs g1 (m1 + takesN c) (s.drop (at' + 1))).1) with
                  | false => rfl
                  | true => have := beg_mono h; rw [hb] at this; cases this
                simp only [this, Bool.false_eq_true, if_false]
              rw [hb] at hbg
              subst hD
              clear hb
              generalize wl ++ [c] = W at *
              generalize W0.iter ⟨#[67, 83, 82, 76, 69]⟩ 5 = W1 at *
              go_wp2_with fail
              refine hbg.mono ?_
              rintro e w2 ⟨rfl, H2⟩
              go_wp2_with fail
              go_ret3
              exact ⟨rfl, H2⟩
            | true =>
              have hrt := fun (w1 : World) (h : Sep w1 R) => rright_calls (l := wl ++ [c]) (by simp; omega) h
              cases hrb : rightB (wl ++ [c]) with
              | true =>
                have hm0 := right_miss hrb
                rw [hmn.out] at hm0
                have hm1 : m1 + takesN c = 0 := Option.some.inj hm0
                have hD : D = (wl ++ [c], at' + 1, 0) := by
                  rw [hdec.out, hpn.out, hm1]
                  have : prs g1 0 (s.drop (at' + 1)) = ([], 0, true) := by cases g1 <;> rfl
                  rw [this]
                  simp only [List.append_nil, hb, if_true, Nat.add_zero]
                rw [hb] at hbg
                rw [hrb] at hrt
                subst hD
                have HRT := Lib.hid hrt
                clear hb hrb hrt hm1 hm0
                generalize hW : wl ++ [c] = W at *
                have HW := Lib.hid hW
                clear hW
                generalize W0.iter ⟨#[67, 83, 82, 76, 69]⟩ 5 = W1 at *
                go_wp2_with fail
                refine hbg.mono ?_
                rintro e w2 ⟨rfl, H2⟩
                go_wp2_with fail
                refine (HRT.out _ H2).mono ?_
                rintro e w3 ⟨rfl, H3⟩
                go_wp2_with fail
                go_ret3
                refine ⟨?_, H3⟩
                rw [HW.out]
                rfl
              | false =>
                have hm2 : m1 + takesN c ≠ 0 := fun e => by
                  have h3 := hmn.out
                  rw [e] at h3
                  have := beg_right hb h3
                  rw [hrb] at this; cases this
                have HN : Hid (miss 1 (wl ++ [c]) = some (m1 + takesN c) ∧ begB (wl ++ [c]) = true) := Lib.hid ⟨hmn.out, hb⟩
                rw [hb] at hbg
                rw [hrb] at hrt
                have HRT := Lib.hid hrt
                clear hb hrb hrt
                have hWl : (wl ++ [c]).length = wl.length + 1 := by simp
                generalize wl ++ [c] = W at *
                generalize W0.iter ⟨#[67, 83, 82, 76, 69]⟩ 5 = W1 at *
                go_wp2_with fail
                refine hbg.mono ?_
                rintro e w2 ⟨rfl, H2⟩
                go_wp2_with fail
                refine (HRT.out _ H2).mono ?_
                rintro e w3 ⟨rfl, H3⟩
                go_wp2_with fail
                go_roundg g1
                case rel => exact ⟨W, at' + 1, m1 + takesN c, hpn, Lib.hid ⟨by omega, by omega, by omega, hm2⟩, HN, rfl, by go_num, H3⟩
                case measure => omega
      · -- three
        have hj : ¬ ((bitStr s).size : Int) < (at' : Int) + 3 := by rw [hss]; omega
        replace hz : (((((bitStr s)[at'])).toNat : Int) == 48) = false := hz
        go_wp2_with fail
        try simp only [hex]
        go_loopg [5] 5 (fun gk wv wx => ∃ pos : Nat, Hid (pos ≤ 5 ∧ gk = 5 - pos) ∧ wv = .string (str (wl ++ hits B pos)) ∧ wx = W0.iter ⟨#[67, 83, 82, 76, 69]⟩ pos)
        case atStart => exact ⟨0, Lib.hid ⟨by omega, rfl⟩, by simp [hits], rfl⟩
        case round =>
          obtain ⟨pos, hq, rfl, rfl⟩ := hrel
          obtain ⟨p1, p2⟩ := hq.out
          clear hq
          by_cases c5 : pos < 5
          · have hnext := fun ty => cands_next (w := W0) ty c5
            have hcc := fun w => rcode_calls (c := cands.getD pos 0) (w := w)
            have hbe := bitStr_beq (codeR (cands.getD pos 0)) B
            have hsu := hits_succ (B := B) c5
            have has := cands_ascii c5
            have henc := encode_ascii has
            have hhl := hits_le B pos
            have hsz := str_size (wl ++ hits B pos)
            rw [List.length_append] at hsz
            have hsz1 : (str (wl ++ hits B pos)).size ≤ 300 := by omega
            have hHC := Lib.hid hcc
            generalize cands.getD pos 0 = x at *
            have hcat : str (wl ++ hits B pos) ++ str [x] = str (wl ++ (hits B pos ++ [x])) := by rw [str_append, List.append_assoc]
            have hz2 := str_size [x]
            have hx1 : (x.toNat : Int) % 256 = (x.toNat : Int) := by omega
            by_cases hcb : codeR x = B
            · rw [if_pos hcb] at hsu
              rw [decide_eq_true hcb] at hbe
              have HS := Lib.hid hsu
              have HCT := Lib.hid hcat
              clear hsu hcc hcat hcb hsz
              generalize str (wl ++ hits B pos) = A at *
              go_wp2_with fail
              refine (hHC.out _).mono ?_
              rintro e w2 ⟨rfl, rfl⟩
              go_wp2_with fail
              go_roundg (5 - (pos + 1))
              case rel => exact ⟨pos + 1, Lib.hid ⟨by omega, rfl⟩, by rw [HS.out, ← HCT.out], rfl⟩
              case measure => omega
            · rw [if_neg hcb, List.append_nil] at hsu
              rw [decide_eq_false hcb] at hbe
              have HS := Lib.hid hsu
              clear hsu hcc hcat hcb hsz
              go_wp2_with fail
              refine (hHC.out _).mono ?_
              rintro e w2 ⟨rfl, rfl⟩
              go_wp2_with fail
              go_roundg (5 - (pos + 1))
              case rel => exact ⟨pos + 1, Lib.hid ⟨by omega, rfl⟩, by rw [HS.out], rfl⟩
              case measure => omega
          · obtain rfl : pos = 5 := by omega
            have hend := fun ty => cands_end (w := W0) ty
            rw [hhit]
            have H1 : Sep (W0.iter ⟨#[67, 83, 82, 76, 69]⟩ 5) R := (Hr.obj_new (.stringIter ⟨#[67, 83, 82, 76, 69]⟩ 5)).tail
            have hbg := rbegins_calls (l := wl ++ [c]) (by simp; omega) H1
            cases hb : begB (wl ++ [c]) with
            | false =>
              have hD : D = ([], 0, 3) := by
                rw [hdec.out, hpn.out]
                have : begB ((wl ++ [c]) ++ (prs g1 (m1 + takesN c) (s.drop (at' + 3))).1) = false := by
                  cases h : begB ((wl ++ [c]) ++ (prs g1 (m1 + takesN c) (s.drop (at' + 3))).1) with
                  | false => rfl
                  | true => have := beg_mono h; rw [hb] at this; cases this
                simp only [this, Bool.false_eq_true, if_false]
              rw [hb] at hbg
              subst hD
              clear hb
              generalize wl ++ [c] = W at *
              generalize W0.iter ⟨#[67, 83, 82, 76, 69]⟩ 5 = W1 at *
              go_wp2_with fail
              refine hbg.mono ?_
              rintro e w2 ⟨rfl, H2⟩
              go_wp2_with fail
              go_ret3
              exact ⟨rfl, H2⟩
            | true =>
              have hrt := fun (w1 : World) (h : Sep w1 R) => rright_calls (l := wl ++ [c]) (by simp; omega) h
              cases hrb : rightB (wl ++ [c]) with
              | true =>
                have hm0 := right_miss hrb
                rw [hmn.out] at hm0
                have hm1 : m1 + takesN c = 0 := Option.some.inj hm0
                have hD : D = (wl ++ [c], at' + 3, 0) := by
                  rw [hdec.out, hpn.out, hm1]
                  have : prs g1 0 (s.drop (at' + 3)) = ([], 0, true) := by cases g1 <;> rfl
                  rw [this]
                  simp only [List.append_nil, hb, if_true, Nat.add_zero]
                rw [hb] at hbg
                rw [hrb] at hrt
                subst hD
                have HRT := Lib.hid hrt
                clear hb hrb hrt hm1 hm0
                generalize hW : wl ++ [c] = W at *
                have HW := Lib.hid hW
                clear hW
                generalize W0.iter ⟨#[67, 83, 82, 76, 69]⟩ 5 = W1 at *
                go_wp2_with fail
                refine hbg.mono ?_
                rintro e w2 ⟨rfl, H2⟩
                go_wp2_with fail
                refine (HRT.out _ H2).mono ?_
                rintro e w3 ⟨rfl, H3⟩
                go_wp2_with fail
                go_ret3
                refine ⟨?_, H3⟩
                rw [HW.out]
                rfl
              | false =>
                have hm2 : m1 + takesN c ≠ 0 := fun e => by
                  have h3 := hmn.out
                  rw [e] at h3
                  have := beg_right hb h3
                  rw [hrb] at this; cases this
                have HN : Hid (miss 1 (wl ++ [c]) = some (m1 + takesN c) ∧ begB (wl ++ [c]) = true) := Lib.hid ⟨hmn.out, hb⟩
                rw [hb] at hbg
                rw [hrb] at hrt
                have HRT := Lib.hid hrt
                clear hb hrb hrt
                have hWl : (wl ++ [c]).length = wl.length + 1 := by simp
                generalize wl ++ [c] = W at *
                generalize W0.iter ⟨#[67, 83, 82, 76, 69]⟩ 5 = W1 at *
                go_wp2_with fail
                refine hbg.mono ?_
                rintro e w2 ⟨rfl, H2⟩
                go_wp2_with fail
                refine (HRT.out _ H2).mono ?_
                rintro e w3 ⟨rfl, H3⟩
                go_wp2_with fail
                go_roundg g1
                case rel => exact ⟨W, at' + 3, m1 + takesN c, hpn, Lib.hid ⟨by omega, by omega, by omega, hm2⟩, HN, rfl, by go_num, H3⟩
                case measure => omega

end Go.Proofs.Ytmihlbecmagmbaa
