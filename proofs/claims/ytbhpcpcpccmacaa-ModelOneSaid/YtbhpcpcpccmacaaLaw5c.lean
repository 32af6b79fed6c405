/- Law 05: ModelOne. -/
import Derived.Test.YtbhpcpcpccmacaaLaw5
import Derived.Test.YtbhpcpcpccmacaaGC
namespace Go.Proofs.Ytbhpcpcpccmacaa
open Go.RowKit Go.Shelf

set_option maxRecDepth 100000 in
set_option maxHeartbeats 8000000 in
theorem law_ModelOne (ba : Option Addr) (bl bc : Nat) (zb : List Int) {w : World} (hzb : IsRow .u8 w ba bl bc zb) (n : Int) (_wn : (Lit.int .i64 n).wf = true) (cx : Int) (_wc : (Lit.int .i64 cx).wf = true) (ca : Option Addr) (cl cc : Nat) (z2 : List Int) (hz2 : IsRow .i64 w ca cl cc z2) :
    Calls Try.prog 7 #[.slice ba bl bc, .int .i64 n, .int .i64 cx, .slice ca cl cc] w fun e w' => e = .returned (.bool true) ∧ Below w.heap.size w w' := by
  have hcap : bl ≤ bc := hzb.fits _ _ _ rfl
  obtain ⟨b, rfl, hlt, hrb⟩ := hzb.bytes
  have hrb : Reads [HP.old w.heap.size w] (.slice ba b.length bc) b.length 1 (b.map bv) := Reads.old hrb
  obtain ⟨ys, rfl, hru⟩ := hz2.read
  clear hzb hz2 _wn _wc
  have H := Sep.start w
  generalize hB : HP.old w.heap.size w = O at H hrb hru
  have HB := Lib.hid hB; clear hB
  have HLT := Lib.hid hlt
  clear hlt
  by_cases hg1 : 400 < b.length
  · have hgi : (400 : Int) < (b.length : Int) := by omega
    go_enter Try.func7, Try.ntmps7
    go_wp2_with fail
    refine (awake5 H).mono ?_
    rintro e w1 ⟨rfl, H1⟩
    clear H
    go_wp2_with fail
    refine (awake5 H1).mono ?_
    rintro e w2 ⟨rfl, H2⟩
    go_wp2_with fail
    go_ret
    subst HB
    exact ⟨rfl, H2.below⟩
  by_cases hg2 : 200 < ys.length
  · have hgi : ¬ (400 : Int) < (b.length : Int) := by omega
    have hgi2 : (200 : Int) < (ys.length : Int) := by omega
    go_enter Try.func7, Try.ntmps7
    go_wp2_with fail
    refine (awake5 H).mono ?_
    rintro e w1 ⟨rfl, H1⟩
    clear H
    go_wp2_with fail
    refine (awake5 H1).mono ?_
    rintro e w2 ⟨rfl, H2⟩
    go_wp2_with fail
    go_ret
    subst HB
    exact ⟨rfl, H2.below⟩
  have hgi : ¬ (400 : Int) < (b.length : Int) := by omega
  have hgi2 : ¬ (200 : Int) < (ys.length : Int) := by omega
  have hce : chkE n cx ys = 0 ∨ chkE n cx ys = 2 := by
    unfold chkE
    split
    · exact .inr rfl
    · rw [if_neg (by omega)]
      split
      · exact .inl rfl
      · exact .inr rfl
  have HCE := Lib.hid hce
  have DC := Lib.hid fun (w' : World) (h : Sep w' [O]) => mdecode_calls (n := n) (cx := cx) hcap HLT.out (by omega) hrb hru h
  clear hce
  go_enter Try.func7, Try.ntmps7
  go_wp2_with fail
  refine (awake5 H).mono ?_
  rintro e w1 ⟨rfl, H1⟩
  clear H
  go_wp2_with fail
  refine (DC.out _ H1).mono ?_
  rintro _ w2 ⟨_, rfl, ⟨hf, rfl, H2⟩ | ⟨hf, ss, u, hok, hen, huq, rfl, H2⟩ | ⟨hf, hno, rfl, H2⟩⟩
  · have he : chkE n cx ys = 2 := by
      rcases HCE.out with h | h
      · exact absurd h hf
      · exact h
    clear DC hf
    rw [he]
    clear he
    go_wp2_with fail
    go_ret
    subst HB
    exact ⟨by simp, H2.below⟩
  · obtain ⟨la, lc, rfl⟩ := H2.row_form
    have hfit := fit_ok hf hok
    have hebb : encB n (ss.map fun x : Nat => (x : Int)) ys = b := by
      unfold encB
      rw [List.map_map]
      refine Eq.trans ?_ hen
      congr 1
      exact (List.map_congr_left fun x _ => rfl).trans (List.map_id _)
    have hsl : ss.length = ys.length := hok.1
    have EC := mencode_calls (v := .slice la ys.length lc) (n := n) (cx := cx) (syms := ss.map fun x : Nat => (x : Int)) (ctx := ys) (by rw [List.length_map, hsl, List.map_map]; exact Reads.row) hru.cons H2
    have HFI := Lib.hid hfit
    have HEB := Lib.hid hebb
    clear DC hf hok hen huq hfit hebb hsl
    go_wp2_with fail
    refine EC.mono ?_
    rintro _ w3 ⟨_, rfl, ⟨hf, -, -⟩ | ⟨-, x, rfl, H3⟩⟩
    · exact absurd HFI.out hf
    rw [HEB.out] at H3
    obtain ⟨xa, xc, rfl⟩ := H3.row_form
    have hb := baD_toList_beq HLT.out HLT.out
    rw [decide_eq_true rfl] at hb
    have c1 := conv_bytes H3.rd
    have c2 := conv_bytes (hrb _ H3.tail.tail)
    clear EC H2
    go_wp2_with fail
    go_ret
    subst HB
    exact ⟨by simp, H3.tail.tail.below⟩
  · clear DC hf hno
    go_wp2_with fail
    go_ret
    subst HB
    exact ⟨by simp, H2.below⟩

end Go.Proofs.Ytbhpcpcpccmacaa
