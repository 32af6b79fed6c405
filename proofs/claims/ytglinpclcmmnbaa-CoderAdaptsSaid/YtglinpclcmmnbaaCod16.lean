/- coder: the reference's Decode; Done. -/
import Derived.Test.YtglinpclcmmnbaaCod15
namespace Go.Proofs.Ytglinpclcmmnbaa
open Go.RowKit Go.Shelf

set_option maxRecDepth 100000 in
set_option maxHeartbeats 4000000 in
theorem rdecode_calls {v sv vb : Value} {x : Nat × Nat × Nat} {s0 : Nat} {cs : List Int} {b : List Nat} {F : List HP} {w : World} (hI : IvI x) (hk : x.1 ≤ 500) (hv : Vt cs) (hs0 : s0 < cs.length) (hlt : ∀ d ∈ b, d < 256) (hin : InI (stepI x cs s0) b)
    (hrd : Reads F v (x.1 + 4) 1 ((digs (x.1 + 4) x.2.1).map dv)) (hrc : Reads F sv cs.length 1 (cs.map iv)) (hrb : Reads F vb b.length 1 (b.map bv)) (H : Sep w F) :
    Calls Try.prog 46 #[.agg #[v, .int .i64 (x.2.2 : Int)], sv, vb] w fun e w' => e = .returned (.int .i64 (s0 : Int)) ∧ Sep w' F := by
  obtain ⟨a, cap, rfl⟩ := (hrd w H).form
  obtain ⟨ac, capc, rfl⟩ := (hrc w H).form
  obtain ⟨ab, capb, rfl⟩ := (hrb w H).form
  have H1 := H.alloc #[.slice a (x.1 + 4) cap, .int .i64 (x.2.2 : Int)] 53
  have HU := Lib.hid fun (s : Nat) (hs : s < cs.length) (h : InI (stepI x cs s) b) => step_uniq hI hv hs0 hs hlt hin h
  have CM := Lib.hid fun (w' : World) (s : Nat) (hs : s < cs.length) (A : HP) (h : Sep w' (A :: F)) => rcome_calls (s := s) hI (by omega) hv hs hrd.cons hrc.cons h
  have CI := Lib.hid fun (w' : World) (s : Nat) (hs : s < cs.length) (v2 : Value) (A B : HP) (hr : Reads (B :: A :: F) v2 ((stepI x cs s).1 + 4) 1 ((digs ((stepI x cs s).1 + 4) (stepI x cs s).2.1).map dv)) (h : Sep w' (B :: A :: F)) => rin_calls (x := stepI x cs s) (by have := (stepI_ok (s := (s : Int)) hI ⟨hv, by omega, by omega⟩).1; rw [Int.toNat_natCast] at this; exact this) (by have := (stepI_ok (s := (s : Int)) hI ⟨hv, by omega, by omega⟩).2; rw [Int.toNat_natCast] at this; omega) hlt hr hrb.cons.cons h
  have HIN := Lib.hid hin
  have hl256 := hv.2.1
  clear hin hrd hrc hrb hI hv hlt
  clear H
  go_enter Try.func46, Try.ntmps46
  go_wp2_with fail
  generalize hW : w.alloc (.cells #[.slice a (x.1 + 4) cap, .int .i64 (x.2.2 : Int)] 53) = W at *
  clear hW
  generalize w.heap.size = n0 at *
  go_loopg [7] cs.length (fun gk i wr => ∃ t : Nat, Hid (t ≤ s0 ∧ gk = cs.length - t) ∧ i = .int .i64 (t : Int) ∧ Sep wr (HP.pt n0 #[.slice a (x.1 + 4) cap, .int .i64 (x.2.2 : Int)] 53 :: F))
  case atStart => exact ⟨0, Lib.hid ⟨by omega, rfl⟩, rfl, H1⟩
  case round =>
    clear H1
    obtain ⟨t, hq, rfl, Hr⟩ := hrel
    obtain ⟨q1, q2⟩ := hq.out
    clear hq
    have ht : t < cs.length := by omega
    have hti : (t : Int) < (cs.length : Int) := by omega
    have c0 := Hr.cell 0 rfl
    have c1 := Hr.cell 1 rfl
    have C1 := CM.out _ t ht _ Hr
    go_wp2_with fail
    refine C1.mono ?_
    rintro _ w2 ⟨_, rfl, u, rfl, H2⟩
    have C2 := CI.out _ t ht _ _ _ (by exact Reads.row) H2
    clear C1
    by_cases hi : t = s0
    · have hii : InI (stepI x cs t) b := by rw [hi]; exact HIN.out
      rw [decide_eq_true hii] at C2
      clear hii
      subst hi
      go_wp2_with fail
      refine C2.mono ?_
      rintro _ w3 ⟨rfl, H3⟩
      go_wp2_with fail
      go_ret
      exact ⟨rfl, H3.tail.tail⟩
    · have hii : ¬ InI (stepI x cs t) b := fun h => hi (HU.out t ht h).symm
      rw [decide_eq_false hii] at C2
      clear hii
      go_wp2_with fail
      refine C2.mono ?_
      rintro _ w3 ⟨rfl, H3⟩
      go_wp2_with fail
      go_roundg (cs.length - (t + 1))
      case rel => exact ⟨t + 1, Lib.hid ⟨by omega, rfl⟩, by go_num, H3.tail⟩
      case measure => omega

set_option maxRecDepth 100000 in
set_option maxHeartbeats 4000000 in
theorem done_calls {q : Nat} {x : Nat × Nat × Nat} {b : List Nat} {F : List HP} {w : World} (hI : IvI x) (hk : x.1 ≤ 1000) (hlt : ∀ d ∈ b, d < 256) (H : Sep w (DecI q b x :: F)) :
    Calls Try.prog 48 #[.pointer (some ⟨q, 0, none⟩)] w fun e w' => (∃ c, IsCode (x.1 + 4) x.2.1 x.2.2 c ∧ e = .returned (.bool (decide (b = c)))) ∧ Sep w' (DecI q b x :: F) := by
  obtain ⟨qe, H1⟩ := H.ex_elim
  clear H
  obtain ⟨a, cap, H2⟩ := DecAt.open H1
  clear H1
  have c0 := H2.cell 0 rfl
  have c3 := H2.cell 3 rfl
  have HF := Lib.hid (finish_calls hI hk H2.drew.rot3)
  have HDI := Lib.hid fun (w' : World) (h : Sep w' (HP.pt q #[.slice a b.length cap, .int .i64 ((x.1 + 4 : Nat) : Int), .int .u64 ((valD (wideL b (x.1 + 4)) - x.2.1 : Nat) : Int), .pointer (some ⟨qe, 0, none⟩)] 96 :: HP.row 5 1 (.slice a b.length cap) b.length (b.map bv) :: EncI qe x :: F)) => (show Sep w' (DecI q b x :: F) from Sep.ex_intro qe (DecAt.shut h))
  have HLT := Lib.hid hlt
  clear hlt hI hk
  go_enter Try.func48, Try.ntmps48
  go_wp2_with fail
  go_region_held3 (fun w' => w'.cell? ⟨q, 0, none⟩ = some (.slice a b.length cap) ∧ w'.cell? ⟨q, 3, none⟩ = some (.pointer (some ⟨qe, 0, none⟩))) (first | exact ⟨c0, c3⟩ | exact ⟨H5.tail.tail.cell 0 rfl, H5.tail.tail.cell 3 rfl⟩) (first | (go_at_call 42; refine HF.out.mono ?_; rintro _ w5 ⟨r5, rfl, c, hc, H5⟩; obtain ⟨ra5, rc5, hr5⟩ := H5.row_form; subst hr5) | (go_at_call 64; refine (bequal_calls HLT.out (show ∀ d ∈ c, d < 256 by obtain ⟨n, -, -, -, hcd⟩ := hc; rw [hcd]; exact digs_lt _ _) H5.tail.tail.tail.rd H5.rd).mono ?_; rintro _ _ ⟨rfl, rfl⟩))
  all_goals (
    go_wp2_with fail
    go_ret
    exact ⟨⟨c, hc, rfl⟩, HDI.out _ H5.tail.mid2⟩)

end Go.Proofs.Ytglinpclcmmnbaa
