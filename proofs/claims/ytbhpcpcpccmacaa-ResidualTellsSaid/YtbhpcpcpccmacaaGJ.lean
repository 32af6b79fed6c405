/- Bytes as a string; bytes.Equal. coder: the decoder's next byte; NewDecoder. coder: what decoding needs, in numbers. -/
import Derived.Test.YtbhpcpcpccmacaaGH
import Derived.Laws.BytesArg
import Derived.Test.YtbhpcpcpccmacaaGI
import Derived.Test.YtbhpcpcpccmacaaCod12

namespace Go.Proofs.Ytbhpcpcpccmacaa
open Go.RowKit Go.Shelf

/-- The string of some bytes. -/
def baD (l : List Nat) : ByteArray := ⟨(l.map UInt8.ofNat).toArray⟩
theorem baD_strOfNums (l : List Nat) : strOfNums (l.map fun d : Nat => (d : Int)) = baD l := by
  unfold strOfNums baD
  rw [List.map_map]
  rfl
theorem ofNat8_inj : ∀ {a b : List Nat}, (∀ d ∈ a, d < 256) → (∀ d ∈ b, d < 256) → a.map UInt8.ofNat = b.map UInt8.ofNat → a = b
  | [], [], _, _, _ => rfl
  | [], _ :: _, _, _, h => by simp at h
  | _ :: _, [], _, _, h => by simp at h
  | x :: a, y :: b, h1, h2, h => by
    simp only [List.map_cons, List.cons.injEq] at h
    have e : (UInt8.ofNat x).toNat = (UInt8.ofNat y).toNat := by rw [h.1]
    have hx := h1 x (by simp)
    have hy := h2 y (by simp)
    rw [UInt8.toNat_ofNat', UInt8.toNat_ofNat', Nat.mod_eq_of_lt (by omega), Nat.mod_eq_of_lt (by omega)] at e
    rw [e, ofNat8_inj (fun d hd => h1 d (by simp [hd])) (fun d hd => h2 d (by simp [hd])) h.2]
theorem baD_beq {a b : List Nat} (h1 : ∀ d ∈ a, d < 256) (h2 : ∀ d ∈ b, d < 256) : ((baD a).data.toList == (baD b).data.toList) = decide (a = b) := by
  by_cases h : a = b
  · subst h; simp
  · rw [decide_eq_false h, beq_eq_false_iff_ne]
    exact fun e => h (ofNat8_inj h1 h2 (by simpa [baD] using e))
theorem baD_toList_beq {a b : List Nat} (h1 : ∀ d ∈ a, d < 256) (h2 : ∀ d ∈ b, d < 256) : ((baD a).toList == (baD b).toList) = decide (a = b) := by
  have e : ∀ l, (baD l).toList = (baD l).data.toList := fun l => by simp [ByteArray.toList_eq]
  rw [e, e, baD_beq h1 h2]
theorem conv_bytes {v : Value} {l : List Nat} {w : World} (hrd : RdS w v l.length 1 (l.map bv)) : (convert 33 9 v).run Try.prog w = .ok (.string (baD l)) w := by
  rcases Nat.eq_zero_or_pos l.length with h0 | h0
  · obtain rfl := List.eq_nil_of_length_eq_zero h0
    rcases hrd.2 with ⟨rfl, _⟩ | ⟨ad, cap, rfl, _⟩
    · exact run_convert_bytes_nil w 33 5 Try.underlying33 Try.underlying5 0 0 9 Try.underlying9
    · rw [List.length_nil, run_convert_bytes_string w 33 9 5 _ _ cap Try.underlying33 Try.underlying5 Try.underlying9]
      rw [run_bytesToString w ad 0 cap [] (by
        have := run_loadCells_list (P := Try.prog) w ad [] (fun j v hj => by simp at hj)
        simpa using this)]
      rfl
  · obtain ⟨g, o, cap, rfl⟩ := hrd.open (by omega)
    rw [← baD_strOfNums]
    refine run_convert_bytes_arg w 33 5 Try.underlying33 Try.underlying5 g o l.length cap _ (by rw [List.length_map]) (fun i hi => ?_) 9 Try.underlying9
    have hg : (l.map bv)[i]? = some (.int .u8 (l[i] : Int)) := by simp [bv, List.getElem?_eq_getElem hi]
    rw [hrd.cell i hg]
    simp [List.getD, List.getElem?_eq_getElem hi]

set_option maxRecDepth 100000 in
theorem bequal_calls {va vb : Value} {xs ys : List Nat} {w : World} (h1 : ∀ d ∈ xs, d < 256) (h2 : ∀ d ∈ ys, d < 256) (ha : RdS w va xs.length 1 (xs.map bv)) (hb : RdS w vb ys.length 1 (ys.map bv)) :
    Calls Try.prog 48 #[va, vb] w fun e w' => e = .returned (.bool (decide (xs = ys))) ∧ w = w' := by
  have c1 := conv_bytes ha
  have c2 := conv_bytes hb
  have hq := Lib.hid (baD_toList_beq h1 h2)
  clear ha hb h1 h2
  go_enter Try.func48, Try.ntmps48
  go_wp2_with fail
  go_ret
  exact ⟨by rw [← hq.out]; rfl, rfl⟩

end Go.Proofs.Ytbhpcpcpccmacaa

namespace Go.Proofs.Ytbhpcpcpccmacaa
open Go.RowKit Go.Shelf

set_option maxRecDepth 100000 in
set_option maxHeartbeats 2000000 in
theorem next_calls {q j : Nat} {sv hv ev : Value} {b : List Nat} {F : List HP} {w : World} (hj : j ≤ 1000000) (hlt : ∀ d ∈ b, d < 256)
    (H : Sep w (HP.pt q #[sv, .int .i64 (j : Int), hv, ev] 131 :: HP.row 5 1 sv b.length (b.map bv) :: F)) :
    Calls Try.prog 100 #[.pointer (some ⟨q, 0, none⟩)] w fun e w' => e = .returned (.int .u64 ((b.getD j 0 : Nat) : Int)) ∧ Sep w' (HP.pt q #[sv, .int .i64 ((j + 1 : Nat) : Int), hv, ev] 131 :: HP.row 5 1 sv b.length (b.map bv) :: F) := by
  obtain ⟨a, c, rfl⟩ := H.tail.row_form
  have c0 := H.cell 0 rfl
  have c1 := H.cell 1 rfl
  have f1 := H.froz 1
  have H1 := H.set 1 (.int .i64 ((j : Int) + 1))
  have e1 : ((j + 1 : Nat) : Int) = (j : Int) + 1 := by omega
  rw [e1]
  clear e1
  by_cases h : j < b.length
  · obtain ⟨g, cap, _, he, -⟩ := H.tail.row_open (by omega)
    simp only [Value.slice.injEq, true_and] at he
    obtain ⟨rfl, rfl⟩ := he
    have k0 := H.tail.row_cell j (bv_at b j h)
    have hd := hlt _ (List.getElem_mem h)
    have hget : b.getD j 0 = b[j] := by simp [List.getD, List.getElem?_eq_getElem h]
    rw [hget]
    generalize b[j] = d at *
    have hji : (j : Int) < (b.length : Int) := by omega
    have hwr : IntKind.u64.wrap (d : Int) = (d : Int) := by
      simp only [IntKind.wrap, IntKind.signed, IntKind.bits]
      first | omega | (simp; omega)
    clear hget
    go_enter Try.func100, Try.ntmps100
    go_wp2_with fail
    go_region
    go_wp2_with fail
    go_region
    go_wp2_with fail
    go_ret
    exact ⟨rfl, H1.drew.drew⟩
  · have hget : b.getD j 0 = 0 := by simp [List.getD, List.getElem?_eq_none (Nat.le_of_not_lt h)]
    rw [hget]
    have hji : ¬ (j : Int) < (b.length : Int) := by omega
    clear hget
    go_enter Try.func100, Try.ntmps100
    go_wp2_with fail
    go_region
    go_wp2_with fail
    go_ret
    exact ⟨rfl, H1.drew⟩

/-- A decoder of bytes b, behind an interval. -/
def DecAt (q : Nat) (b : List Nat) (x : Nat × Nat × Nat) (qe at' h : Nat) : HP := HP.ex fun sv => HP.all [HP.pt q #[sv, .int .i64 (at' : Int), .int .u64 (h : Int), .pointer (some ⟨qe, 0, none⟩)] 131, HP.row 5 1 sv b.length (b.map bv), EncI qe x]
theorem DecAt.open {w : World} {q qe at' h : Nat} {b : List Nat} {x : Nat × Nat × Nat} {F : List HP} (H : Sep w (DecAt q b x qe at' h :: F)) :
    ∃ a c, Sep w (HP.pt q #[.slice a b.length c, .int .i64 (at' : Int), .int .u64 (h : Int), .pointer (some ⟨qe, 0, none⟩)] 131 :: HP.row 5 1 (.slice a b.length c) b.length (b.map bv) :: EncI qe x :: F) := by
  obtain ⟨v, h⟩ := H.ex_elim
  have h := h.all_elim
  obtain ⟨a, c, rfl⟩ := (Sep.tail h).row_form
  exact ⟨a, c, h⟩
theorem DecAt.shut {w : World} {q qe at' h : Nat} {v : Value} {b : List Nat} {x : Nat × Nat × Nat} {F : List HP} (H : Sep w (HP.pt q #[v, .int .i64 (at' : Int), .int .u64 (h : Int), .pointer (some ⟨qe, 0, none⟩)] 131 :: HP.row 5 1 v b.length (b.map bv) :: EncI qe x :: F)) :
    Sep w (DecAt q b x qe at' h :: F) := Sep.ex_intro v (Sep.all_intro H)
/-- .. as it stands between two symbols. -/
def DecI (q : Nat) (b : List Nat) (x : Nat × Nat × Nat) : HP := HP.ex fun qe => DecAt q b x qe (x.1 + 4) (valD (wideL b (x.1 + 4)) - x.2.1)
theorem valD_wide_succ (b : List Nat) (K : Nat) : valD (wideL b (K + 1)) = valD (wideL b K) * 256 + b.getD K 0 := by rw [wideL_succ, valD_snoc]
theorem wide_get_lt {b : List Nat} (h : ∀ d ∈ b, d < 256) (K : Nat) : b.getD K 0 < 256 := by
  simp only [List.getD]
  rcases Nat.lt_or_ge K b.length with h1 | h1
  · rw [List.getElem?_eq_getElem h1]; exact h _ (List.getElem_mem h1)
  · rw [List.getElem?_eq_none h1]; decide

set_option maxRecDepth 100000 in
set_option maxHeartbeats 4000000 in
theorem newdec_calls {v : Value} {b : List Nat} {F : List HP} {w : World} (hl : b.length ≤ 1000000) (hlt : ∀ d ∈ b, d < 256) (hrd : Reads F v b.length 1 (b.map bv)) (H : Sep w F) :
    Calls Try.prog 91 #[v] w (Gives fun r w' => ∃ q, r = .pointer (some ⟨q, 0, none⟩) ∧ Sep w' (DecI q b firstI :: F)) := by
  obtain ⟨va, vc, rfl⟩ := (hrd w H).form
  go_enter Try.func91, Try.ntmps91
  go_wp2_with fail
  refine (bclone_calls hl hrd H).mono ?_
  rintro _ w1 ⟨r, rfl, H1⟩
  obtain ⟨ra, rc, rfl⟩ := H1.row_form
  clear H
  go_wp2_with fail
  refine (cnew_calls H1).mono ?_
  rintro _ w2 ⟨qe, rfl, H2⟩
  have H3 := H2.alloc #[.slice ra b.length rc, .int .i64 0, .int .u64 0, .pointer (some ⟨qe, 0, none⟩)] 131
  clear H1
  go_wp2_with fail
  generalize w2.heap.size = q at *
  go_loopg [9] 4 (fun gk j wr => ∃ i : Nat, Hid (i ≤ 4 ∧ gk = 4 - i) ∧ j = .int .i64 (i : Int) ∧ Sep wr (DecAt q b firstI qe i (valD (wideL b i)) :: F))
  case atStart => exact ⟨0, Lib.hid ⟨by omega, rfl⟩, rfl, DecAt.shut (v := .slice ra b.length rc) (H3.cons_congr (fun _ => SepOn.perm (.swap _ _ _) _))⟩
  case round =>
    clear H3 H2
    obtain ⟨i, hq, rfl, Hr⟩ := hrel
    obtain ⟨q1, q2⟩ := hq.out
    clear hq
    by_cases hi : i < 4
    · obtain ⟨a, c, H4⟩ := DecAt.open Hr
      clear Hr
      have c0 := H4.cell 2 rfl
      have hV : valD (wideL b i) < 1099511627776 := by
        have h1 := valD_lt (wideL b i) (wideL_lt i hlt)
        rw [wideL_length] at h1
        have h2 : 256 ^ i ≤ 256 ^ 4 := Nat.pow_le_pow_right (by decide) (by omega)
        have h3 : (256 : Nat) ^ 4 = 4294967296 := by decide
        omega
      have hd := wide_get_lt hlt i
      have hor := or_byte hV hd
      have hs := valD_wide_succ b i
      have HN := Lib.hid (next_calls (by omega) hlt H4.drew)
      generalize valD (wideL b i) = V at *
      generalize b.getD i 0 = d at *
      have hii : (i : Int) < 4 := by omega
      have hw : IntKind.u64.wrap ((V : Int) * 256) = (V : Int) * 256 := by
        simp only [IntKind.wrap, IntKind.signed, IntKind.bits]
        first | omega | (simp; omega)
      have HS := Lib.hid hs
      clear hs
      go_wp2_with fail
      have c1 := H4.drew.cell 2 rfl
      go_region_with (first | (go_at_call 100; refine HN.out.mono ?_; rintro _ w5 ⟨rfl, H5⟩; have c5 := H5.cell 2 rfl; have f5 := H5.froz 2))
      all_goals (
        have H6 := H5.set 2 (.int .u64 ((V : Int) * 256 + (d : Int)))
        have e6 : ((V : Int) * 256 + (d : Int)) = ((valD (wideL b (i + 1)) : Nat) : Int) := by rw [HS.out]; omega
        rw [e6] at H6 ⊢
        clear c5 f5
        go_wp2_with fail
        go_roundg (4 - (i + 1))
        case rel => exact ⟨i + 1, Lib.hid ⟨by omega, rfl⟩, by go_num, DecAt.shut (v := .slice a b.length c) H6⟩
        case measure => omega)
    · obtain rfl : i = 4 := by omega
      go_wp2_with fail
      go_ret
      exact ⟨_, rfl, q, rfl, Sep.ex_intro qe Hr⟩

end Go.Proofs.Ytbhpcpcpccmacaa

namespace Go.Proofs.Ytbhpcpcpccmacaa
open Go.RowKit Go.Shelf

/-- The number by which a symbol is found. -/
def askN (cs : List Int) (R h : Nat) : Nat := min (h / (R / (isum cs).toNat)) ((isum cs).toNat - 1)
theorem ask_find {cs : List Int} {R h : Nat} (hv : Vt cs) (hR : 16777216 ≤ R) (hh : h < R) :
    findI cs (askN cs R h : Int) < cs.length ∧ ptF cs (findI cs (askN cs R h : Int)) R ≤ h ∧ h < ptF cs (findI cs (askN cs R h : Int)) R + ptW cs (findI cs (askN cs R h : Int)) R := by
  have hv0 := hv
  obtain ⟨v1, v2, v3, v4⟩ := hv0
  have hpos := isum_nonneg v3
  obtain ⟨n, hn⟩ := Int.eq_ofNat_of_zero_le (show 0 ≤ isum cs by omega)
  have hask : askN cs R h = min (h / (R / n)) (n - 1) := by unfold askN; rw [hn]; rfl
  have hn0 : 0 < n := by omega
  have hnl : n ≤ 65536 := by omega
  have hr0 : 0 < R / n := Nat.div_pos (by omega) hn0
  obtain ⟨m, hm⟩ : ∃ m, m = askN cs R h := ⟨_, rfl⟩
  have hmn : m < n := by rw [hm, hask]; omega
  have hfi : findI cs (m : Int) = findOf cs (m : Int) := by unfold findI; rw [if_pos ⟨by omega, by omega⟩]
  rw [← hm, hfi]
  have hlt : findOf cs (m : Int) < cs.length := findOf_lt (by omega) (by omega)
  obtain ⟨s, hs⟩ : ∃ s, s = findOf cs (m : Int) := ⟨_, rfl⟩
  rw [← hs] at hlt ⊢
  obtain ⟨f1, f2⟩ := (findOf_in v3 hlt).1 hs.symm
  have hp := pt_spec hv hlt hR
  have hF : ptF cs s R = (isum (cs.take s)).toNat * (R / n) := by unfold ptF; rw [hn]; rfl
  refine ⟨hlt, ?_, ?_⟩
  · rw [hF]
    rcases f2 with rfl | f2
    · simp [isum]
    · have h1 : (isum (cs.take s)).toNat ≤ h / (R / n) := by omega
      calc (isum (cs.take s)).toNat * (R / n) ≤ h / (R / n) * (R / n) := Nat.mul_le_mul_right _ h1
        _ ≤ h := Nat.div_mul_le_self _ _
  · rcases Nat.lt_or_ge (s + 1) cs.length with hl | hl
    · rw [hp.2.2.2 hl]
      have hF2 : ptF cs (s + 1) R = (isum (cs.take (s + 1))).toNat * (R / n) := by unfold ptF; rw [hn]; rfl
      rw [hF2]
      have h2 := isum_take_succ hl
      have h3 := isum_take_le v3 (s + 1 + 1)
      have h4 := v3 cs[s + 1] (List.getElem_mem hl)
      have h5 : m = h / (R / n) := by omega
      have h6 : h / (R / n) < (isum (cs.take (s + 1))).toNat := by omega
      exact (Nat.div_lt_iff_lt_mul hr0).1 h6
    · rw [hp.2.2.1 (by omega)]
      exact hh
theorem wide_shift {b : List Nat} {K L R : Nat} (hlt : ∀ d ∈ b, d < 256) (h1 : L ≤ valD (wideL b K)) (h2 : valD (wideL b K) < L + R) :
    ∀ i, L * 256 ^ i ≤ valD (wideL b (K + i)) ∧ valD (wideL b (K + i)) < L * 256 ^ i + R * 256 ^ i
  | 0 => by simpa using ⟨h1, h2⟩
  | i + 1 => by
    have ih := wide_shift hlt h1 h2 i
    have hd := wide_get_lt hlt (K + i)
    have hs := valD_wide_succ b (K + i)
    rw [← Nat.add_assoc, hs, Nat.pow_succ, ← Nat.mul_assoc, ← Nat.mul_assoc]
    omega
theorem find_in {cs : List Int} {b : List Nat} {x : Nat × Nat × Nat} {s : Nat} (hlt : ∀ d ∈ b, d < 256) (hin : InI x b) (h1 : ptF cs s x.2.2 ≤ valD (wideL b (x.1 + 4)) - x.2.1) (h2 : valD (wideL b (x.1 + 4)) - x.2.1 < ptF cs s x.2.2 + ptW cs s x.2.2) :
    InI (stepI x cs s) b := by
  obtain ⟨k, L, R⟩ := x
  obtain ⟨i1, i2⟩ := hin
  simp only at i1 i2 h1 h2
  have := wide_shift (K := k + 4) (L := L + ptF cs s R) (R := ptW cs s R) hlt (by omega) (by omega) (shS (ptW cs s R))
  unfold InI stepI
  simp only
  rw [show k + shS (ptW cs s R) + 4 = k + 4 + shS (ptW cs s R) by omega]
  exact this

theorem wide_back {b : List Nat} {K L W : Nat} (hlt : ∀ d ∈ b, d < 256) : ∀ i, L * 256 ^ i ≤ valD (wideL b (K + i)) → valD (wideL b (K + i)) < L * 256 ^ i + W * 256 ^ i → L ≤ valD (wideL b K) ∧ valD (wideL b K) < L + W
  | 0, h1, h2 => by simpa using And.intro h1 h2
  | i + 1, h1, h2 => by
    have hd := wide_get_lt hlt (K + i)
    have hs := valD_wide_succ b (K + i)
    rw [← Nat.add_assoc, hs, Nat.pow_succ, ← Nat.mul_assoc] at h1 h2
    rw [← Nat.mul_assoc] at h2
    exact wide_back hlt i (by omega) (by omega)
/-- What a step's interval says of the bytes in it. -/
theorem step_in {cs : List Int} {b : List Nat} {x : Nat × Nat × Nat} {s : Nat} (hlt : ∀ d ∈ b, d < 256) (h : InI (stepI x cs s) b) : x.2.1 + ptF cs s x.2.2 ≤ valD (wideL b (x.1 + 4)) ∧ valD (wideL b (x.1 + 4)) < x.2.1 + ptF cs s x.2.2 + ptW cs s x.2.2 := by
  obtain ⟨k, L, R⟩ := x
  obtain ⟨h1, h2⟩ := h
  unfold stepI at h1 h2
  simp only at h1 h2 ⊢
  rw [show k + shS (ptW cs s R) + 4 = k + 4 + shS (ptW cs s R) by omega] at h1 h2
  exact wide_back hlt _ h1 h2
theorem step_up {cs : List Int} {b : List Nat} {x : Nat × Nat × Nat} {s : Nat} (hI : IvI x) (hv : Vt cs) (hs : s < cs.length) (hlt : ∀ d ∈ b, d < 256) (h : InI (stepI x cs s) b) : InI x b := by
  obtain ⟨h1, h2⟩ := step_in hlt h
  obtain ⟨k, L, R⟩ := x
  have hIv : Iv k L R := hI
  have := (pt_spec hv hs hIv.1).1
  unfold InI
  simp only at h1 h2 ⊢
  omega
theorem ptF_le {cs : List Int} {R s : Nat} (hv : Vt cs) (hR : 16777216 ≤ R) : ∀ d, s + d + 1 < cs.length → ptF cs s R + ptW cs s R ≤ ptF cs (s + d + 1) R
  | 0, h => Nat.le_of_eq ((pt_spec hv (by omega) hR).2.2.2 h)
  | d + 1, h => by
    have h1 := ptF_le (s := s) hv hR d (by omega)
    have h2 := (pt_spec hv (s := s + d + 1) (by omega) hR).2.2.2 (by omega)
    rw [show s + (d + 1) + 1 = s + d + 1 + 1 by omega, ← h2]
    omega
theorem step_uniq {cs : List Int} {b : List Nat} {x : Nat × Nat × Nat} {s s' : Nat} (hI : IvI x) (hv : Vt cs) (hs : s < cs.length) (hs' : s' < cs.length) (hlt : ∀ d ∈ b, d < 256) (h : InI (stepI x cs s) b) (h' : InI (stepI x cs s') b) : s = s' := by
  obtain ⟨a1, a2⟩ := step_in hlt h
  obtain ⟨b1, b2⟩ := step_in hlt h'
  obtain ⟨k, L, R⟩ := x
  have hIv : Iv k L R := hI
  simp only at a1 a2 b1 b2
  rcases Nat.lt_trichotomy s s' with hl | hl | hl
  · have := ptF_le (R := R) (s := s) hv hIv.1 (s' - s - 1) (by omega)
    rw [show s + (s' - s - 1) + 1 = s' by omega] at this
    omega
  · exact hl
  · have := ptF_le (R := R) (s := s') hv hIv.1 (s - s' - 1) (by omega)
    rw [show s' + (s - s' - 1) + 1 = s by omega] at this
    omega
theorem runI_up {b : List Nat} {x : Nat × Nat × Nat} {its : List Stp} (hI : IvI x) (hok : ∀ p ∈ its, RightS p.2.1 p.2.2) (hlt : ∀ d ∈ b, d < 256) (h : InI (runI x its) b) : ∀ t, InI (runI x (its.take t)) b := by
  induction its using rev_ind with
  | h0 => intro t; simpa using h
  | h1 l p ih =>
    intro t
    rcases Nat.lt_or_ge l.length t with ht | ht
    · rw [List.take_of_length_le (by rw [List.length_append, List.length_singleton]; omega)]
      exact h
    · rw [List.take_append_of_le_length ht]
      refine ih (fun q hq => hok q (by simp [hq])) ?_ t
      rw [runI_snoc] at h
      have hp := hok p (by simp)
      exact step_up (runI_ok hI (fun q hq => hok q (by simp [hq]))).1 hp.1 (by have := hp.2; omega) hlt h
theorem code_in {k L R : Nat} {c : List Nat} (hI : Iv k L R) (h : IsCode (k + 4) L R c) : InI (k, L, R) c := by
  obtain ⟨n, h1, -, h3, rfl⟩ := h
  have hR : 0 < R := by have := hI.1; omega
  exact (inI_iff h1 hR (upN_lt h1 h3 hR hI.2.2)).2 h3
theorem in_ok {k L R : Nat} {b : List Nat} (hm : b.length ≤ k + 4) (h : InI (k, L, R) b) : OkN (k + 4) L R b.length := by
  obtain ⟨h1, h2⟩ := h
  simp only at h1 h2
  have e : wideL b (k + 4) = b ++ List.replicate (k + 4 - b.length) 0 := by
    unfold wideL
    rw [List.take_append, List.take_of_length_le hm, List.take_replicate, Nat.min_eq_left (by omega)]
  rw [e, valD_append, List.length_replicate, (valD_zero_iff _).2 (fun d hd => (List.mem_replicate.1 hd).2), Nat.add_zero] at h1 h2
  unfold OkN
  have hp : 0 < 256 ^ (k + 4 - b.length) := Nat.pow_pos (by decide)
  generalize 256 ^ (k + 4 - b.length) = P at *
  generalize valD b = u at *
  have hd := Nat.div_add_mod L P
  have hml := Nat.mod_lt L hp
  by_cases h0 : L % P = 0
  · exact .inl h0
  · refine .inr ?_
    have hlt : L / P < u := by
      apply Classical.byContradiction
      intro hn
      have := Nat.mul_le_mul_right P (Nat.le_of_not_lt hn)
      have e1 := Nat.mul_comm P (L / P)
      omega
    have h3 := Nat.mul_le_mul_right P (show L / P + 1 ≤ u from hlt)
    rw [Nat.add_mul, Nat.one_mul] at h3
    have e1 := Nat.mul_comm P (L / P)
    omega
theorem code_less {k L R : Nat} {c b : List Nat} (h : IsCode (k + 4) L R c) (hb : b.length < c.length) : ¬ InI (k, L, R) b := by
  obtain ⟨n, h1, h2, -, rfl⟩ := h
  rw [digs_length] at hb
  exact fun hi => h2 _ hb (in_ok (by omega) hi)
theorem wide_zero (b : List Nat) : ∀ K, wideL (b ++ [0]) K = wideL b K
  | 0 => by simp [wideL]
  | K + 1 => by
    rw [wideL_succ, wideL_succ, wide_zero b K]
    congr 2
    simp only [List.getD]
    rcases Nat.lt_trichotomy K b.length with h | h | h
    · rw [List.getElem?_append_left h]
    · subst h
      simp
    · rw [List.getElem?_eq_none (by simp; omega), List.getElem?_eq_none (by omega)]
theorem in_zero {x : Nat × Nat × Nat} {b : List Nat} : InI x (b ++ [0]) ↔ InI x b := by
  unfold InI
  rw [wide_zero]
theorem have_step {b : List Nat} {K L j : Nat} (h : L * 256 ^ j ≤ valD (wideL b (K + j))) : valD (wideL b (K + (j + 1))) - L * 256 ^ (j + 1) = (valD (wideL b (K + j)) - L * 256 ^ j) * 256 + b.getD (K + j) 0 := by
  have hs := valD_wide_succ b (K + j)
  rw [← Nat.add_assoc, hs, Nat.pow_succ, ← Nat.mul_assoc]
  omega
/-- What a decoder has, while bytes come. -/
def havN (b : List Nat) (K L j : Nat) : Nat := valD (wideL b (K + j)) - L * 256 ^ j
theorem hav_spec {b : List Nat} {K L W sh : Nat} (hlt : ∀ d ∈ b, d < 256) (h1 : L ≤ valD (wideL b K)) (h2 : valD (wideL b K) < L + W) (hW : W * 256 ^ sh ≤ 4294967296) : ∀ j, j ≤ sh → havN b K L j < 4294967296 ∧ havN b K L (j + 1) = havN b K L j * 256 + b.getD (K + j) 0 := by
  intro j hj
  obtain ⟨a1, a2⟩ := wide_shift hlt h1 h2 j
  refine ⟨?_, have_step a1⟩
  have h3 := Nat.mul_le_mul_left W (Nat.pow_le_pow_right (n := 256) (by decide) hj)
  unfold havN
  omega

end Go.Proofs.Ytbhpcpcpccmacaa
