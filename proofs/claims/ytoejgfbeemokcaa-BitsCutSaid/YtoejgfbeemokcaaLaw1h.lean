import Derived.Test.YtoejgfbeemokcaaLaw1f
import Derived.WalkLawsBesides
namespace Go.Proofs.Ytoejgfbeemokcaa
open Go.RowKit

theorem valBits_ofBits (l : List Bool) : valBits (ofBits l) l.length = l := by
  induction l using List.reverseRecOn' with
  | nil => rfl
  | snoc l x ih =>
    rw [ofBits_snoc, List.length_append, List.length_singleton, valBits_succ]
    have e1 : (2 * ofBits l + x.toNat) / 2 = ofBits l := by have := Bool.toNat_le x; omega
    have e2 : (2 * ofBits l + x.toNat).testBit 0 = x := by
      rw [Nat.testBit_zero]; cases x <;> simp <;> omega
    rw [e1, e2, ih]

theorem piece_len (l : List Bool) (t n : Nat) (h : t + n ≤ l.length) : ((l.drop t).take n).length = n := by rw [List.length_take, List.length_drop]; omega

theorem take_piece (l : List Bool) (t n : Nat) : l.take t ++ (l.drop t).take n = l.take (t + n) := by
  rw [List.take_add]

theorem get_at {n : Int} {k b i : Nat} {l : List Bool} {R : List HP} {w : World} (hk : n = (k : Int)) (hn : k ≤ 64) (hi : i + k ≤ l.length) (hl : l.length ≤ 33554432) (H : Sep w (Rdr b l i :: R)) :
    Calls Try.prog 29 #[.pointer (some ⟨b, 0, none⟩), .int .i64 n] w fun e w' => e = .returned (.tuple #[.int .u64 (ofBits ((l.drop i).take k) : Int), .int .i64 0]) ∧ Sep w' (Rdr b l (i + k) :: R) := by
  subst hk; exact get_ok hn hi hl H
theorem put_at {n : Int} {V k b : Nat} {l : List Bool} {R : List HP} {w : World} (hk : n = (k : Int)) (hn : k ≤ 64) (hv : V < 2 ^ k) (hl : l.length + k ≤ 33554432) (H : Sep w (Wr b l :: R)) :
    Calls Try.prog 22 #[.pointer (some ⟨b, 0, none⟩), .int .u64 (V : Int), .int .i64 n] w fun e w' => e = .returned (.int .i64 0) ∧ Sep w' (Wr b (l ++ valBits V k) :: R) := by
  subst hk; exact put_ok hn hv hl H

set_option maxRecDepth 100000 in
set_option maxHeartbeats 4000000 in
theorem law_BitsJoin (va : Value) (as_ : List (Int × Int)) {w : World} (hrowa : PairRow .u64 .i64 w va as_) (vb : Value) (bs : List (Int × Int)) (hrowb : PairRow .u64 .i64 w vb bs) :
    Calls Try.prog 6 #[va, vb] w fun e w' => e = .returned (.bool true) ∧ Below w.heap.size w w' := by
  obtain ⟨hbiga, hwfa, hrda⟩ := hrowa
  obtain ⟨hbigb, hwfb, hrdb⟩ := hrowb
  have HBIGA := Lib.hid hbiga
  have HBIGB := Lib.hid hbigb
  have H := Sep.start w
  have HRDA := Lib.hid (Reads.old (R := []) hrda)
  have HRDB := Lib.hid (Reads.old (R := []) hrdb)
  clear hrda hrdb hbiga hbigb
  generalize hB : HP.old w.heap.size w = O at H HRDA HRDB
  have HB := Lib.hid hB; clear hB
  have HWFA := Lib.hid hwfa; clear hwfa
  have HWFB := Lib.hid hwfb; clear hwfb
  have hfita := fun (w1 : World) (H1 : Sep w1 [O]) => lfits_calls HBIGA.out HWFA.out (HRDA.out w1 H1)
  have hfitb := fun (w1 : World) (H1 : Sep w1 [O]) => lfits_calls HBIGB.out HWFB.out (HRDB.out w1 H1)
  by_cases hoka : (∀ x ∈ as_, okItem x) ∧ as_.length ≤ 60
  · rw [decide_eq_true hoka] at hfita
    have HFITA := Lib.hid hfita
    have HOKA := Lib.hid hoka.1
    have hla := hoka.2
    clear hfita hoka
    by_cases hokb : (∀ x ∈ bs, okItem x) ∧ bs.length ≤ 60
    · rw [decide_eq_true hokb] at hfitb
      have HFITB := Lib.hid hfitb
      have HOKB := Lib.hid hokb.1
      have hlb := hokb.2
      clear hfitb hokb
      have hAl := itemBits_len HOKA.out
      have hBl := itemBits_len HOKB.out
      go_enter Try.func6, Try.ntmps6
      go_wp2_with fail
      refine (awake1 H).mono ?_
      rintro e w1 ⟨rfl, H1⟩
      clear H
      go_wp2_with fail
      refine (HFITA.out w1 H1).mono ?_
      rintro e w2 ⟨rfl, n2, rfl⟩
      have H2 := H1.drewN n2
      generalize w1.drewN n2 = w2 at H2 ⊢
      clear H1
      go_wp2_with fail
      refine (HFITB.out w2 H2).mono ?_
      rintro e w3 ⟨rfl, n3, rfl⟩
      have H3 := H2.drewN n3
      generalize w2.drewN n3 = w3 at H3 ⊢
      clear H2
      have H4 := Wr.new (Wr.new (Wr.new H3))
      go_wp2_with fail
      have e1 : (w3.alloc (.cells #[.slice none 0 0, .int .i64 0] 26)).heap.size = w3.heap.size + 1 := by simp
      have e2 : ((w3.alloc (.cells #[.slice none 0 0, .int .i64 0] 26)).alloc (.cells #[.slice none 0 0, .int .i64 0] 26)).heap.size = w3.heap.size + 2 := by simp
      rw [e1, e2] at H4
      clear e1 e2
      generalize w3.heap.size = q at H4 ⊢
      generalize ((w3.alloc (.cells #[.slice none 0 0, .int .i64 0] 26)).alloc (.cells #[.slice none 0 0, .int .i64 0] 26)).alloc (.cells #[.slice none 0 0, .int .i64 0] 26) = w4 at H4 ⊢
      refine (lput_calls (its := as_) hla (by decide) HOKA.out HWFA.out HRDA.out.cons.cons H4.rot3).mono ?_
      rintro e w5 ⟨rfl, H5⟩
      clear H4 H3
      rw [List.nil_append] at H5
      obtain ⟨A, hA⟩ : ∃ A, A = itemBits as_ := ⟨_, rfl⟩
      obtain ⟨B, hB⟩ : ∃ B, B = itemBits bs := ⟨_, rfl⟩
      rw [← hA] at H5 hAl
      rw [← hB] at hBl
      have HA := Lib.hid hA
      have HBB := Lib.hid hB
      clear hA hB
      go_wp2_with fail
      refine (lput_calls (its := bs) hlb (by decide) HOKB.out HWFB.out HRDB.out.cons.cons H5.rot3).mono ?_
      rintro e w6 ⟨rfl, H6⟩
      rw [List.nil_append, ← HBB.out] at H6
      clear H5
      go_wp2_with fail
      refine (lput_calls (its := as_) hla (by decide) HOKA.out HWFA.out HRDA.out.cons.cons H6.rot3).mono ?_
      rintro e w7 ⟨rfl, H7⟩
      rw [List.nil_append, ← HA.out] at H7
      clear H6
      go_wp2_with fail
      refine (lput_calls (its := bs) hlb (by omega) HOKB.out HWFB.out HRDB.out.cons.cons H7).mono ?_
      rintro e w8 ⟨rfl, H8⟩
      rw [← HBB.out] at H8
      clear H7
      have hB32 : B.length ≤ 33554432 := by omega
      go_wp2_with fail
      refine (bytes_ok hB32 H8.swap).mono ?_
      rintro e w9 ⟨r, rfl, H9⟩
      have hrd9 := H9.rd
      go_wp2_with fail
      refine (len_calls H9.tail).mono ?_
      rintro e w10 ⟨rfl, rfl⟩
      go_wp2_with fail
      refine (nr_ok hB32 hrd9 H9).mono ?_
      rintro e w10 ⟨r2, rfl, br, rfl, H10⟩
      replace H10 := H10.swap.tail
      clear H8 H9 hrd9
      go_wp2_with fail
      go_loopg [10, 11, 12] B.length (fun gk _ _ _ wr => ∃ t : Nat, Hid (gk = B.length - t) ∧ t ≤ B.length ∧ Sep wr (Rdr br B t :: Wr (q + 1) B :: Wr (q + 2) (A ++ B) :: Wr q (A ++ B.take t) :: [O]))
      case atStart => exact ⟨0, Lib.hid (by omega), by omega, by simpa using H10⟩
      case round =>
        clear H10
        obtain ⟨t, hgk, ht, Hr⟩ := hrel
        go_wp2_with fail
        refine (left_ok ht hB32 Hr).mono ?_
        rintro e w11 ⟨rfl, n11, rfl⟩
        replace Hr := Hr.drewN n11
        generalize wr.drewN n11 = w11 at Hr ⊢
        by_cases hlt : t < B.length
        · have hlt1 : (0 : Int) < (B.length : Int) - (t : Int) := by omega
          go_wp2_with fail
          refine (left_ok ht hB32 Hr).mono ?_
          rintro e w12 ⟨rfl, n12, rfl⟩
          replace Hr := Hr.drewN n12
          generalize w11.drewN n12 = w12 at Hr ⊢
          have hn : ∃ n : Nat, t + n ≤ B.length ∧ n ≤ 13 ∧ 0 < n ∧ ((B.length - t ≤ 13 ∧ n = B.length - t) ∨ (13 < B.length - t ∧ n = 13)) := by
            by_cases c : B.length - t ≤ 13
            · exact ⟨B.length - t, by omega, by omega, by omega, .inl ⟨c, rfl⟩⟩
            · exact ⟨13, by omega, by omega, by omega, .inr ⟨by omega, rfl⟩⟩
          obtain ⟨n, hn1, hn2, hn3, hn⟩ := hn
          have hpl := piece_len B t n hn1
          have hvo := ofBits_lt ((B.drop t).take n)
          have hback := valBits_ofBits ((B.drop t).take n)
          have htp := take_piece B t n
          rw [hpl] at hvo hback
          have HVO := Lib.hid hvo
          have HBK := Lib.hid hback
          have HTP := Lib.hid htp
          clear hpl hvo hback htp
          have hABl : (A ++ B.take t).length + n ≤ 33554432 := by rw [List.length_append, List.length_take]; omega
          have hAB2 : ((A ++ B.take (t + n)).length : Int) ≤ ((A ++ B).length : Int) := by rw [List.length_append, List.length_append, List.length_take]; omega
          have HAB2 := Lib.hid hAB2
          clear hAB2
          rcases hn with ⟨c, hn⟩ | ⟨c, hn⟩
          case' inl =>
            have c' : (B.length : Int) - (t : Int) < 13 ∨ (B.length : Int) - (t : Int) = 13 := by omega
            have hnn : (B.length : Int) - (t : Int) = (n : Int) := by omega
            clear hn
            have hmin : min ((B.length : Int) - (t : Int)) 13 = (n : Int) := by rw [Int.min_eq_left (by omega), hnn]
            clear c'
            go_wp2_with fail
          case' inr =>
            have hnn : n = 13 := hn
            clear hn
            have c' : (13 : Int) < (B.length : Int) - (t : Int) := by omega
            subst hnn
            go_wp2_with fail
          case' inl => clear hnn
          all_goals
            refine (get_at (by omega) (by omega) hn1 hB32 Hr).mono ?_
            rintro e w13 ⟨rfl, H13⟩
            generalize ofBits _ = V at HVO HBK ⊢
            go_wp2_with fail
            refine (put_at (by omega) (by omega) HVO.out hABl H13.rot4).mono ?_
            rintro e w14 ⟨rfl, H14⟩
            rw [HBK.out, List.append_assoc, HTP.out] at H14
            go_wp2_with fail
            refine (len_calls H14).mono ?_
            rintro e w15 ⟨rfl, rfl⟩
            go_wp2_with fail
            refine (len_calls H14.rot4).mono ?_
            rintro e w15 ⟨rfl, rfl⟩
            have hle := HAB2.out
            go_wp2_with fail
            first | go_roundg (B.length - (t + n)) | go_roundg (B.length - (t + 13))
            case rel => exact ⟨_, Lib.hid rfl, hn1, H14.mid3⟩
            case measure => have := hgk.out; omega
        · have ht2 : t = B.length := by omega
          subst ht2
          rw [List.take_length] at Hr
          replace Hr := Hr.tail.tail.swap
          have hABlen : (A ++ B).length ≤ 33554432 := by rw [List.length_append]; omega
          obtain ⟨L, hLe⟩ : ∃ L, L = A ++ B := ⟨_, rfl⟩
          rw [← hLe] at Hr hABlen
          clear hLe
          have hpkl : (pk L).length ≤ 1099511627776 := by rw [pk_length]; omega
          go_wp2_with fail
          refine (bytes_ok hABlen Hr).mono ?_
          rintro e w12 ⟨r1, rfl, H12⟩
          obtain ⟨ra, rc, hr1⟩ := H12.row_form
          subst hr1
          go_wp2_with fail
          refine (bytes_ok hABlen H12.rot3).mono ?_
          rintro e w13 ⟨r2, rfl, H13⟩
          go_wp2_with fail
          refine (same_calls hpkl H13.tail.tail.rd H13.rd).mono ?_
          rintro e w14 ⟨rfl, n14, rfl⟩
          have H14 := (H13.drewN n14).tail.swap
          generalize w13.drewN n14 = w14 at H14 ⊢
          clear H12 H13 Hr
          rw [decide_eq_true (rfl : pk L = pk L)]
          obtain ⟨N, hN⟩ : ∃ N, N = (pk L).length := ⟨_, rfl⟩
          rw [← hN] at H14 ⊢
          have hN2 : N ≤ 4194304 := by rw [hN, pk_length]; omega
          have HN := Lib.hid hN
          clear hN
          go_wp2_with fail
          go_loopw [14, 69] (fun _ i wr => ∃ j : Nat, j ≤ N ∧ i = .int .i64 (j : Int) ∧ ∃ ys : List Nat, Hid (ys.length = N) ∧ Sep wr (HP.row 5 1 (.slice ra N rc) N (ys.map u8v) :: Wr (q + 2) L :: Wr q L :: [O])) (fun _ i _ => N - (intOf i).toNat)
          case atStart => exact ⟨0, by omega, rfl, _, Lib.hid HN.out.symm, H14⟩
          case round =>
            clear H14
            obtain ⟨j, hj, rfl, ys, hys, Hq⟩ := hrel
            by_cases hjlt : j < N
            · obtain ⟨g, cap', cur, he, hx⟩ := Hq.row_open (by omega)
              clear hx
              simp only [Value.slice.injEq, true_and] at he
              obtain ⟨rfl, rfl⟩ := he
              have hjy : j < ys.length := by have := hys.out; omega
              have hc : wr.cell? ⟨g, j, none⟩ = some (.int .u8 (ys[j] : Int)) := Hq.row_cell j (u8v_get _ _ hjy)
              have hf := Hq.row_froz j
              have hz : ((ys[j] : Int) + 1) % 256 = (((ys[j] + 1) % 256 : Nat) : Int) := by omega
              have Hs := Hq.row_set j (u8v ((ys[j] + 1) % 256))
              rw [← List.map_set] at Hs
              have hys2 : Hid ((ys.set j ((ys[j] + 1) % 256)).length = N) := Lib.hid (by rw [List.length_set]; exact hys.out)
              generalize (ys[j] + 1) % 256 = z at *
              generalize ys[j] = y at *
              generalize ys.set j z = ys2 at *
              go_wp2_with fail
              go_roundw
              case rel => exact ⟨j + 1, by omega, by go_num, ys2, hys2, Hs⟩
              case measure => simp [intOf]; omega
            · replace Hq := Hq.tail.swap
              go_wp2_with fail
              refine (bytes_ok hABlen Hq).mono ?_
              rintro e w15 ⟨r3, rfl, H15⟩
              go_wp2_with fail
              refine (bytes_ok hABlen H15.rot3).mono ?_
              rintro e w16 ⟨r4, rfl, H16⟩
              go_wp2_with fail
              refine (same_calls hpkl H16.tail.tail.rd H16.rd).mono ?_
              rintro e w17 ⟨rfl, n17, rfl⟩
              have H17 := (H16.drewN n17).tail
              generalize w16.drewN n17 = w17 at H17 ⊢
              clear H15 H16 Hq
              rw [decide_eq_true (rfl : pk L = pk L)]
              go_wp2_with fail
              refine (len_calls H17.rot3).mono ?_
              rintro e w18 ⟨rfl, rfl⟩
              go_wp2_with fail
              refine (len_calls H17).mono ?_
              rintro e w18 ⟨rfl, rfl⟩
              go_wp2_with fail
              go_ret
              subst HB
              exact ⟨rfl, H17.tail.tail.tail.below⟩
    · rw [decide_eq_false hokb] at hfitb
      have HFITB := Lib.hid hfitb
      clear hfitb hokb
      go_enter Try.func6, Try.ntmps6
      go_wp2_with fail
      refine (awake1 H).mono ?_
      rintro e w1 ⟨rfl, H1⟩
      clear H
      go_wp2_with fail
      refine (HFITA.out w1 H1).mono ?_
      rintro e w2 ⟨rfl, n2, rfl⟩
      have H2 := H1.drewN n2
      generalize w1.drewN n2 = w2 at H2 ⊢
      clear H1
      go_wp2_with fail
      refine (HFITB.out w2 H2).mono ?_
      rintro e w3 ⟨rfl, n3, rfl⟩
      have H3 := H2.drewN n3
      generalize w2.drewN n3 = w3 at H3 ⊢
      go_wp2_with fail
      refine (awake1 H3).mono ?_
      rintro e w4 ⟨rfl, H4⟩
      go_wp2_with fail
      go_ret
      subst HB
      exact ⟨rfl, H4.below⟩
  · rw [decide_eq_false hoka] at hfita
    have HFITA := Lib.hid hfita
    clear hfita hoka hfitb
    go_enter Try.func6, Try.ntmps6
    go_wp2_with fail
    refine (awake1 H).mono ?_
    rintro e w1 ⟨rfl, H1⟩
    clear H
    go_wp2_with fail
    refine (HFITA.out w1 H1).mono ?_
    rintro e w2 ⟨rfl, n2, rfl⟩
    have H2 := H1.drewN n2
    generalize w1.drewN n2 = w2 at H2 ⊢
    clear H1
    go_wp2_with fail
    refine (awake1 H2).mono ?_
    rintro e w4 ⟨rfl, H4⟩
    go_wp2_with fail
    go_ret
    subst HB
    exact ⟨rfl, H4.below⟩

end Go.Proofs.Ytoejgfbeemokcaa
