/- Law 22: written, reader; WordEncodes. -/
import Derived.Test.YtmihlbecmagmbaaLaw22a
import Derived.Test.YtmihlbecmagmbaaWord13
namespace Go.Proofs.Ytmihlbecmagmbaa
open Go.RowKit Go.Shelf

set_option maxHeartbeats 1000000 in
/-- 'written': the bits of a writer as a text. -/
theorem written_calls {b : Nat} {l : List Bool} {R : List HP} {w : World} (hl : l.length ≤ 1048576) (H : Sep w (Wr b l :: R)) :
    Calls Try.prog 25 #[.pointer (some ⟨b, 0, none⟩)] w fun e w' => e = .returned (.string (bitStr l)) ∧ Sep w' (Wr b l :: R) := by
  have hpl := pk_length l
  have hq : ((pk l).length : Int) = ((l.length : Int) + 7) / 8 := by omega
  have hne : (((pk l).length : Int) != ((l.length : Int) + 7) / 8) = false := by rw [bne_eq_false_iff_eq]; exact hq
  have hl8 : l.length ≤ 8 * (pk l).length := by omega
  have hap := all_pk l
  have HAP := Lib.hid hap
  have hbb : ∀ x ∈ pk l, x < 256 := by
    intro x hx
    unfold pk pkN at hx
    simp only [List.mem_map, List.mem_range] at hx
    obtain ⟨j, _, rfl⟩ := hx
    exact byteAt_lt l j
  have HBB := Lib.hid hbb
  clear hpl hq hap hbb
  go_enter Try.func25, Try.ntmps25
  go_wp2_with fail
  refine (bytes_ok (by omega) H).mono ?_
  rintro e w1 ⟨r, rfl, H1⟩
  obtain ⟨ra, rc, rfl⟩ := H1.row_form
  go_wp2_with fail
  refine (len_calls H1.tail).mono ?_
  rintro e w2 ⟨rfl, rfl⟩
  go_wp2_with fail
  refine (len_calls H1.tail).mono ?_
  rintro e w2 ⟨rfl, rfl⟩
  go_wp2_with fail
  refine (len_calls H1.tail).mono ?_
  rintro e w2 ⟨rfl, rfl⟩
  go_wp2_with fail
  refine (rbits_calls HBB.out hl8 hl H1.rd).mono ?_
  rintro e w2 ⟨rfl, rfl⟩
  rw [HAP.out]
  go_wp2_with fail
  go_ret
  exact ⟨rfl, H1.tail⟩

set_option maxRecDepth 100000 in
set_option maxHeartbeats 1000000 in
theorem reader_calls {l : List Bool} {R : List HP} {w : World} (hl : l.length ≤ 33554432) (H : Sep w R) :
    Calls Try.prog 28 #[.string (bitStr l)] w (Gives fun r w' => ∃ b, r = .pointer (some ⟨b, 0, none⟩) ∧ Sep w' (Rdr b l 0 :: R)) := by
  have hsz : ((bitStr l).size : Int) = (l.length : Int) := by rw [bitStr_size]
  have HSZ := Lib.hid hsz
  go_enter Try.func28, Try.ntmps28
  go_wp2_with fail
  refine (rbytes2_calls (by omega) H).mono ?_
  rintro e w1 ⟨r, rfl, H1⟩
  obtain ⟨ra, rc, rfl⟩ := H1.row_form
  go_wp2_with fail
  refine (nr_ok hl H1.rd H1.tail).mono ?_
  rintro e w2 ⟨r2, rfl, b, rfl, H2⟩
  go_wp2_with fail
  go_ret
  exact ⟨_, rfl, b, rfl, H2⟩

set_option maxRecDepth 100000 in
set_option maxHeartbeats 4000000 in
theorem law_WordEncodes (b : ByteArray) (_hb : b.size ≤ maxLen) {w : World} :
    Calls Try.prog 8 #[.string b] w fun e w' => e = .returned (.bool true) ∧ Below w.heap.size w w' := by
  clear _hb
  have hb := str_data b
  generalize b.data.toList = l at hb
  subst hb
  have hss := str_size l
  have H := Sep.start w
  generalize hB : HP.old w.heap.size w = O at H
  have HB := Lib.hid hB; clear hB
  by_cases hfew : 60 < l.length
  · have hi : 60 < ((str l).size : Int) := by rw [hss]; omega
    go_enter Try.func8, Try.ntmps8
    go_wp2_with fail
    refine (awake22 H).mono ?_
    rintro e w1 ⟨rfl, H1⟩
    go_wp2_with fail
    go_ret
    subst HB
    exact ⟨rfl, H1.below⟩
  · have hi : ¬ 60 < ((str l).size : Int) := by rw [hss]; omega
    have hrr := fun (w1 : World) (R1 : List HP) (h : Sep w1 R1) => rright_calls (l := l) (by omega) h
    have HRR := Lib.hid hrr
    clear hrr
    cases hp : rightB l with
    | false =>
      rw [hp] at HRR
      have he := fun (q : Addr) (w1 : World) (R1 : List HP) (h : Sep w1 R1) => wencode_not (p := some q) (by simp) hp (by omega) h
      have HE := Lib.hid he
      clear he
      go_enter Try.func8, Try.ntmps8
      go_wp2_with fail
      refine (awake22 H).mono ?_
      rintro e w1 ⟨rfl, H1⟩
      have H2 := Wr.new H1
      go_wp2_with fail
      generalize w1.heap.size = q at *
      generalize w1.alloc (.cells #[.slice none 0 0, .int .i64 0] 42) = w2 at *
      refine (HE.out _ _ _ H2).mono ?_
      rintro e w3 ⟨rfl, H3⟩
      go_wp2_with fail
      refine (wencode_nil).mono ?_
      rintro e w4 ⟨rfl, rfl⟩
      go_wp2_with fail
      refine (HRR.out _ _ H3).mono ?_
      rintro e w4 ⟨rfl, H4⟩
      go_wp2_with fail
      refine (len_calls H4).mono ?_
      rintro e w5 ⟨rfl, rfl⟩
      go_wp2_with fail
      go_ret
      subst HB
      exact ⟨rfl, H4.tail.below⟩
    | true =>
      rw [hp] at HRR
      have he := fun (q : Nat) (w1 : World) (R1 : List HP) (h : Sep w1 (Wr q [] :: R1)) => wencode_ok (lw := []) hp (by omega) (by simp) h
      have hwl := wbits_le l
      have hwr := fun (q : Nat) (w1 : World) (R1 : List HP) (h : Sep w1 (Wr q (wbits l) :: R1)) => written_calls (by omega) h
      have hbb := fun (w1 : World) => rbits22_calls (l := l) (w := w1) (st_letters (rightB_iff.1 hp).1) (by omega)
      have HE := Lib.hid he
      have HWR := Lib.hid hwr
      have HBB := Lib.hid hbb
      clear he hwr hbb
      go_enter Try.func8, Try.ntmps8
      go_wp2_with fail
      refine (awake22 H).mono ?_
      rintro e w1 ⟨rfl, H1⟩
      have H2 := Wr.new H1
      go_wp2_with fail
      generalize w1.heap.size = q at *
      generalize w1.alloc (.cells #[.slice none 0 0, .int .i64 0] 42) = w2 at *
      refine (HE.out _ _ _ H2).mono ?_
      rintro e w3 ⟨rfl, H3⟩
      rw [List.nil_append] at H3
      go_wp2_with fail
      refine (wencode_nil).mono ?_
      rintro e w4 ⟨rfl, rfl⟩
      go_wp2_with fail
      refine (HRR.out _ _ H3).mono ?_
      rintro e w4 ⟨rfl, H4⟩
      go_wp2_with fail
      refine (HWR.out _ _ _ H4).mono ?_
      rintro e w5 ⟨rfl, H5⟩
      go_wp2_with fail
      refine (HBB.out _).mono ?_
      rintro e w6 ⟨rfl, rfl⟩
      go_wp2_with fail
      go_ret
      subst HB
      exact ⟨rfl, H5.tail.below⟩

end Go.Proofs.Ytmihlbecmagmbaa
