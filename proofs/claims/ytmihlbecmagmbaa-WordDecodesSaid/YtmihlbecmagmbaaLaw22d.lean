/- Law 22: WordDecodes. -/
import Derived.Test.YtmihlbecmagmbaaLaw22c
import Derived.Test.YtmihlbecmagmbaaWord15
import Derived.Test.YtmihlbecmagmbaaWord16
namespace Go.Proofs.Ytmihlbecmagmbaa
open Go.RowKit Go.Shelf

theorem prs_le : ∀ (f m : Nat) (s : List Bool), (prs f m s).2.1 ≤ s.length
  | 0, 0, _ => by simp [prs]
  | f + 1, 0, _ => by simp [prs]
  | 0, _ + 1, _ => by simp [prs]
  | f + 1, m + 1, s => by
    simp only [prs]
    cases h : nextL s with
    | none => simp
    | some cn =>
      obtain ⟨c, n⟩ := cn
      have h1 := (nextL_some h).2.2.1
      have h2 := prs_le f (m + takesN c) (s.drop n)
      rw [List.length_drop] at h2
      simp only
      omega
theorem decA_le (s : List Bool) : (decA s).2.1 ≤ s.length := by
  have := prs_le (s.length + 1) 1 s
  unfold decA
  split
  · split
    · exact this
    · simp
  · simp

set_option maxHeartbeats 1000000 in
theorem wdecode_nil {w : World} : Calls Try.prog 29 #[.pointer none] w fun e w' => e = .returned (.tuple #[.string (str []), .int .i64 1]) ∧ w = w' := by
  go_enter Try.func29, Try.ntmps29
  go_wp2_with fail
  go_ret2
  exact ⟨rfl, rfl⟩

theorem row_bytes {w : World} {a : Option Addr} {len cap : Nat} {zs : List Int} (h : IsRow .u8 w a len cap zs) : ∃ bs : List Nat, bs.length = len ∧ (∀ x ∈ bs, x < 256) ∧ RdS w (.slice a len cap) len 1 (bs.map u8v) := by
  have hw := h.wf
  refine ⟨(zs.take len).map Int.toNat, by rw [List.length_map]; exact h.len, fun x hx => ?_, ?_⟩
  · obtain ⟨z, hz, rfl⟩ := List.mem_map.1 hx
    have := wf_u8 (hw z hz)
    omega
  · have := h.rd
    have e : ((zs.take len).map Int.toNat).map u8v = (zs.take len).map (Value.int .u8) := by
      rw [List.map_map]
      apply List.map_congr_left
      intro z hz
      have := wf_u8 (hw z hz)
      simp only [Function.comp, u8v]
      congr 1; omega
    rw [e]
    exact this

set_option maxRecDepth 100000 in
set_option maxHeartbeats 4000000 in
theorem law_WordDecodes (a : Option Addr) (len cap : Nat) (z : List Int) {w : World} (hrow : IsRow .u8 w a len cap z) (less : Int) (wl : (Lit.int .u8 less).wf = true) :
    Calls Try.prog 9 #[.slice a len cap, .int .u8 less] w fun e w' => e = .returned (.bool true) ∧ Below w.heap.size w w' := by
  have hl0 := (wf_u8 wl).1
  have hl1 := (wf_u8 wl).2
  clear wl
  obtain ⟨bs, hbl, hb, hrd⟩ := row_bytes hrow
  subst hbl
  clear hrow
  have H := Sep.start w
  have hreads : Reads [HP.old w.heap.size w] (.slice a bs.length cap) bs.length 1 (bs.map u8v) := Reads.old hrd
  have HRD := Lib.hid hreads
  clear hreads hrd
  have HBB := Lib.hid hb
  clear hb
  generalize hB : HP.old w.heap.size w = O at H HRD
  have HB := Lib.hid hB; clear hB
  by_cases hfew : 5 < bs.length
  · go_enter Try.func9, Try.ntmps9
    go_wp2_with fail
    refine (awake22 H).mono ?_
    rintro e w1 ⟨rfl, H1⟩
    go_wp2_with fail
    go_ret
    subst HB
    exact ⟨rfl, H1.below⟩
  have hlenI : (bs.length : Int) ≤ 5 := by omega
  -- the text
  obtain ⟨n, hn⟩ : ∃ n : Nat, n = 8 * bs.length - (less % 8).toNat := ⟨_, rfl⟩
  obtain ⟨T, hT⟩ : ∃ T, T = (allBits bs).take n := ⟨_, rfl⟩
  have hTl : T.length ≤ 40 := by rw [hT, List.length_take, allBits_length]; omega
  have HTX := Lib.hid (fun (m : Int) (hm : m = (n : Int)) (w1 : World) (h : RdS w1 (.slice a bs.length cap) bs.length 1 (bs.map u8v)) => rbits_int (n := n) hm HBB.out (by omega) (by omega) h)
  rw [← hT] at HTX
  have HTX2 := Lib.hid (HTX.out (max (8 * (bs.length : Int) - less % 8) 0) (by omega))
  clear hT HTX hn
  have hdl := decA_le T
  have HWD := Lib.hid (fun (q : Nat) (R : List HP) (w1 : World) (h : Sep w1 (Rdr q T 0 :: R)) => wdecode_calls (i := 0) (by omega) (by omega) h)
  rw [List.drop_zero] at HWD
  have HRD2 := Lib.hid (fun (R : List HP) (w1 : World) (h : Sep w1 R) => rdecode_calls (s := T) (by omega) h)
  have hsz := bitStr_size T
  generalize decA T = D at *
  obtain ⟨D1, D2, D3⟩ := D
  simp only at hdl HWD HRD2
  have hT2 : (T.length : Int) ≤ 40 := by omega
  have hmod : 0 ≤ less % 8 ∧ less % 8 < 8 := by omega
  by_cases hz : D3 = 0
  · subst hz
    go_enter Try.func9, Try.ntmps9
    go_wp2_with fail
    refine (awake22 H).mono ?_
    rintro e w1 ⟨rfl, H1⟩
    clear H
    go_wp2_with fail
    refine (HTX2.out _ (HRD.out _ H1)).mono ?_
    rintro e w2 ⟨rfl, rfl⟩
    go_wp2_with fail
    refine (reader_calls (by omega) H1).mono ?_
    rintro e w3 ⟨r, rfl, q, rfl, H3⟩
    go_wp2_with fail
    refine (HWD.out _ _ _ H3).mono ?_
    rintro e w4 ⟨rfl, j, H4, hj⟩
    have HJ := Lib.hid hj
    clear hj
    go_wp2_with fail
    refine (HRD2.out _ _ H4).mono ?_
    rintro e w5 ⟨rfl, H5⟩
    go_wp2_with fail
    refine wdecode_nil.mono ?_
    rintro e w6 ⟨rfl, rfl⟩
    have hj0 : j = D2 := by have := HJ.out; simp at this; exact this
    have hlf := left_ok (R := [O]) (i := j) (by omega) (by omega) H5
    rw [hj0] at hlf
    clear hj0
    go_wp2_with fail
    refine hlf.mono ?_
    rintro e w7 ⟨rfl, n7, rfl⟩
    go_wp2_with fail
    go_ret
    subst HB
    exact ⟨rfl, (H5.drewN n7).tail.below⟩
  · have hz0 := hz
    go_enter Try.func9, Try.ntmps9
    go_wp2_with fail
    refine (awake22 H).mono ?_
    rintro e w1 ⟨rfl, H1⟩
    clear H
    go_wp2_with fail
    refine (HTX2.out _ (HRD.out _ H1)).mono ?_
    rintro e w2 ⟨rfl, rfl⟩
    go_wp2_with fail
    refine (reader_calls (by omega) H1).mono ?_
    rintro e w3 ⟨r, rfl, q, rfl, H3⟩
    go_wp2_with fail
    refine (HWD.out _ _ _ H3).mono ?_
    rintro e w4 ⟨rfl, j, H4, hj⟩
    have HJ := Lib.hid hj
    clear hj
    go_wp2_with fail
    refine (HRD2.out _ _ H4).mono ?_
    rintro e w5 ⟨rfl, H5⟩
    go_wp2_with fail
    refine wdecode_nil.mono ?_
    rintro e w6 ⟨rfl, rfl⟩
    have e1 : (D3 != 0) = true := by simp [hz]
    go_wp2_with fail
    go_ret
    subst HB
    exact ⟨rfl, H5.tail.below⟩

end Go.Proofs.Ytmihlbecmagmbaa
