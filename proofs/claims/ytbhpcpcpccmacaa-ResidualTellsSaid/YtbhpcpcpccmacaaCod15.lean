/- coder: Decode. -/
import Derived.Test.YtbhpcpcpccmacaaGJ
namespace Go.Proofs.Ytbhpcpcpccmacaa
open Go.RowKit Go.Shelf

set_option maxRecDepth 100000 in
set_option maxHeartbeats 8000000 in
theorem decode_calls {q bt : Nat} {x : Nat × Nat × Nat} {cs : List Int} {b : List Nat} {F : List HP} {w : World} (hI : IvI x) (hk : x.1 ≤ 200000) (hv : Vt cs) (hlt : ∀ d ∈ b, d < 256) (hin : InI x b) (H : Sep w (DecI q b x :: Tbl bt cs :: F)) :
    Calls Try.prog 92 #[.pointer (some ⟨q, 0, none⟩), .pointer (some ⟨bt, 0, none⟩)] w fun e w' => ∃ s : Nat, e = .returned (.tuple #[.int .i64 (s : Int), .int .i64 0]) ∧ s < cs.length ∧ InI (stepI x cs s) b ∧ Sep w' (DecI q b (stepI x cs s) :: Tbl bt cs :: F) := by
  obtain ⟨k, L, R⟩ := x
  obtain ⟨qe, H1⟩ := H.ex_elim
  clear H
  simp only at H1 hk
  have hIv : Iv k L R := hI
  obtain ⟨i1, i2, i3⟩ := hIv
  have hin0 := hin
  obtain ⟨n1, n2⟩ := hin0
  simp only at n1 n2
  obtain ⟨h, hh⟩ : ∃ h, h = valD (wideL b (k + 4)) - L := ⟨_, rfl⟩
  rw [← hh] at H1
  have hhR : h < R := by omega
  obtain ⟨f1, f2, f3⟩ := ask_find hv i1 hhR
  have FIN := find_in (s := findI cs (askN cs R h : Int)) hlt hin (by rw [← hh]; exact f2) (by rw [← hh]; exact f3)
  have FC := fun (w' : World) (G : List HP) (hw : Sep w' (Tbl bt cs :: G)) => find_calls (x := (askN cs R h : Int)) hv hw
  have hv0 := hv
  obtain ⟨v1, v2, v3, v4⟩ := hv0
  have hpos := isum_nonneg v3
  have hask : askN cs R h = min (h / (R / (isum cs).toNat)) ((isum cs).toNat - 1) := rfl
  obtain ⟨s, hs⟩ : ∃ s, s = findI cs (askN cs R h : Int) := ⟨_, rfl⟩
  have HFC : Hid (∀ (w' : World) (G : List HP), Sep w' (Tbl bt cs :: G) → Calls Try.prog 101 #[.pointer (some ⟨bt, 0, none⟩), .int .i64 (askN cs R h : Int)] w' fun e w2 => (∃ u, e = .returned (.tuple #[.int .i64 (s : Int), u])) ∧ Sep w2 (Tbl bt cs :: G)) := Lib.hid fun w' G hw => (FC w' G hw).mono fun e w2 ⟨he, hw2⟩ => ⟨⟨_, by rw [hs]; exact he⟩, hw2⟩
  rw [← hs] at f1 f2 f3 FIN
  clear FC hs
  obtain ⟨sa, sc, H2⟩ := DecAt.open H1
  clear H1
  have SY := symbols_calls H2.rot4
  obtain ⟨n, hn⟩ := Int.eq_ofNat_of_zero_le (show 0 ≤ isum cs by omega)
  have TT : Hid (∀ (w' : World) (G : List HP), Sep w' (Tbl bt cs :: G) → Calls Try.prog 96 #[.pointer (some ⟨bt, 0, none⟩)] w' fun e w2 => e = .returned (.int .i64 (n : Int)) ∧ w' = w2) := Lib.hid fun w' G hw => by rw [← hn]; exact total_calls hw
  have HN := Lib.hid hn
  obtain ⟨ea, ec, H3⟩ := Enc.open (F := _) (show Sep w (Enc qe k L R :: HP.pt q #[.slice sa b.length sc, .int .i64 ((k + 4 : Nat) : Int), .int .u64 (h : Int), .pointer (some ⟨qe, 0, none⟩)] 131 :: HP.row 5 1 (.slice sa b.length sc) b.length (b.map bv) :: Tbl bt cs :: F) from H2.rot3)
  have c3 := H2.cell 3 rfl
  have c2 := H2.cell 2 rfl
  have d2 := H3.cell 2 rfl
  have d0 := H3.cell 0 rfl
  obtain ⟨p1, p2, -, -⟩ := pt_spec hv f1 i1
  have CM := fun (w' : World) hw => come_calls (w := w') (q := qe) (k := k) (L := L) (show Iv k L R from hI) p1 p2 hk (F := HP.pt q #[.slice sa b.length sc, .int .i64 ((k + 4 : Nat) : Int), .int .u64 (h : Int), .pointer (some ⟨qe, 0, none⟩)] 131 :: HP.row 5 1 (.slice sa b.length sc) b.length (b.map bv) :: Tbl bt cs :: F) hw
  have PT : Hid (∀ (w' : World) (G : List HP), Sep w' (Tbl bt cs :: G) → Calls Try.prog 84 #[.pointer (some ⟨bt, 0, none⟩), .int .i64 (s : Int), .int .u64 (R : Int)] w' fun e w2 => e = .returned (.tuple #[.int .u64 (ptF cs s R : Int), .int .u64 (ptW cs s R : Int)]) ∧ w' = w2) := Lib.hid fun w' G hw => part_calls hv f1 i2 hw
  have HWID : Hid (∀ j, j ≤ shS (ptW cs s R) → havN b (k + 4) (L + ptF cs s R) j < 4294967296 ∧ havN b (k + 4) (L + ptF cs s R) (j + 1) = havN b (k + 4) (L + ptF cs s R) j * 256 + b.getD (k + 4 + j) 0) := Lib.hid (hav_spec hlt (by omega) (by omega) (shS_spec p2 (by omega)).2.2)
  have HSH : Hid (shS (ptW cs s R) ≤ 3) := Lib.hid (shS_spec p2 (by omega)).1
  generalize hpf : ptF cs s R = pf at *
  generalize hpw : ptW cs s R = pw at *
  have HPF := Lib.hid hpf
  have HPW := Lib.hid hpw
  have HCM := Lib.hid CM
  have HFIN := Lib.hid FIN
  have hl1 : ((cs.length : Int) == 0) = false := by simp; intro h; subst h; exact absurd f1 (by simp)
  have hl2 : ¬ cs = [] := by intro h; subst h; exact absurd f1 (by simp)
  clear hpf hpw CM FIN hin
  rw [HN.out] at hask hpos v4
  have HH := Lib.hid hh
  clear hh
  go_enter Try.func92, Try.ntmps92
  go_wp2_with fail
  refine SY.mono ?_
  rintro _ _ ⟨rfl, rfl⟩
  go_wp2_with fail
  clear SY
  have wr : ∀ x : Nat, x ≤ 4294967296 → IntKind.u64.wrap (x : Int) = (x : Int) := fun x hx => by
    simp only [IntKind.wrap, IntKind.signed, IntKind.bits]
    first | omega | (simp; omega)
  have wi : ∀ x : Nat, x ≤ 4294967296 → IntKind.i64.wrap (x : Int) = (x : Int) := fun x hx => by
    simp only [IntKind.wrap, IntKind.signed, IntKind.bits]
    first | omega | (simp; omega)
  rw [Int.toNat_natCast] at hask
  have hn0 : 0 < n := by omega
  have hr0 : 0 < R / n := Nat.div_pos (by omega) hn0
  have n1 : (n : Int) ≠ 0 := by omega
  have n2 : ¬ n = 0 := by omega
  have wn := wr n (by omega)
  have hdl : R / n ≤ 4294967296 := Nat.le_trans (Nat.div_le_self _ _) i2
  have hdv : (R : Int) / (n : Int) = ((R / n : Nat) : Int) := rfl
  have hdt : (R : Int).tdiv (n : Int) = ((R / n : Nat) : Int) := rfl
  generalize R / n = r at *
  have wd := wr r hdl
  have HT := H2.drew.rot4
  go_region_held3 (fun w' => w'.cell? ⟨q, 3, none⟩ = some (.pointer (some ⟨qe, 0, none⟩)) ∧ w'.cell? ⟨qe, 2, none⟩ = some (.int .u64 (R : Int))) (exact ⟨c3, d2⟩) (first | (go_at_call 96; refine (TT.out _ _ HT).mono ?_; rintro _ _ ⟨rfl, rfl⟩))
  clear c2 c3 d2 d0 H2 H3 wn n1 n2 hdv hdt wd
  generalize w.drew = w1 at *
  have c2 := HT.swap.cell 2 rfl
  have r1 : (r : Int) ≠ 0 := by omega
  have r2 : ¬ r = 0 := by omega
  have hdl2 : h / r ≤ 4294967296 := Nat.le_trans (Nat.div_le_self _ _) (by omega)
  have hdv : (h : Int) / (r : Int) = ((h / r : Nat) : Int) := rfl
  have hdt : (h : Int).tdiv (r : Int) = ((h / r : Nat) : Int) := rfl
  generalize h / r = y at *
  have wy := wi y hdl2
  have wy2 := wr y hdl2
  have wn1 : IntKind.i64.wrap ((n : Int) - 1) = (n : Int) - 1 := by
    have := wi (n - 1) (by omega)
    rw [show ((n - 1 : Nat) : Int) = (n : Int) - 1 by omega] at this
    exact this
  obtain ⟨z, hz⟩ : ∃ z : Int, (askN cs R h : Int) = z := ⟨_, rfl⟩
  have EQZ : Hid ((if (n : Int) - 1 < (y : Int) then (n : Int) - 1 else (y : Int)) = z) := Lib.hid (by rw [← hz]; split <;> omega)
  have HFC2 : Hid (∀ (w' : World) (G : List HP), Sep w' (Tbl bt cs :: G) → Calls Try.prog 101 #[.pointer (some ⟨bt, 0, none⟩), .int .i64 z] w' fun e w2 => (∃ u, e = .returned (.tuple #[.int .i64 (s : Int), u])) ∧ Sep w2 (Tbl bt cs :: G)) := Lib.hid (by
    have := HFC.out
    rw [hz] at this
    exact this)
  clear HFC hask hz
  have HT2 := HT.drew
  all_goals (
      go_wp2_with fail
      go_region_held3 (fun w' => w'.cell? ⟨q, 2, none⟩ = some (.int .u64 (h : Int))) (first | exact c2 | exact H6.swap.cell 2 rfl) (first | (go_at_call 96; refine (TT.out _ _ HT2).mono ?_; rintro _ _ ⟨rfl, rfl⟩) | (go_at_call 101; rw [EQZ.out]; refine (HFC2.out _ _ HT2).mono ?_; rintro _ w6 ⟨⟨u6, rfl⟩, H6⟩))
      clear wr wi r1 r2 hdl2 hdv hdt wy wy2 wn1 HFC2 HT HT2 c2 hn0 hr0 hdl
      -- part

      have H7q := H6.swap
      have c3 := H7q.cell 3 rfl
      obtain ⟨ea, ec, H8⟩ := Enc.open (F := _) (show Sep w6 (Enc qe k L R :: Tbl bt cs :: HP.pt q #[.slice sa b.length sc, .int .i64 ((k + 4 : Nat) : Int), .int .u64 (h : Int), .pointer (some ⟨qe, 0, none⟩)] 131 :: HP.row 5 1 (.slice sa b.length sc) b.length (b.map bv) :: F) from H6.rot4)
      have d2 := H8.cell 2 rfl
      have d0 := H8.cell 0 rfl
      have PC := PT.out _ _ H6
      have CMC := HCM.out w6 H6.mid2.rot4
      have hh3 : pf ≤ h := by omega
      have hav0 : h - pf = havN b (k + 4) (L + pf) 0 := by
        unfold havN
        rw [Nat.add_zero, Nat.pow_zero, Nat.mul_one, HH.out]
        omega
      have HAV := Lib.hid hav0
      clear hav0
      go_wp2_with fail
      refine PC.mono ?_
      rintro _ _ ⟨rfl, rfl⟩
      go_wp2_with fail
      refine CMC.mono ?_
      rintro _ w8 ⟨⟨u8, rfl⟩, H9⟩
      clear PC CMC HCM H8 H7q H6 c3 d2 d0
      have hsh := HSH.out
      have HST0 : Hid (stepI (k, L, R) cs s = (k + shS pw, (L + pf) * 256 ^ shS pw, pw * 256 ^ shS pw)) := Lib.hid (by unfold stepI; simp only; rw [HPF.out, HPW.out])
      rw [HST0.out] at HFIN
      clear HPF HPW HSH
      generalize hL2 : (L + pf) * 256 ^ shS pw = L2 at *
      have HL2 := Lib.hid hL2
      generalize pw * 256 ^ shS pw = R2 at *
      generalize shS pw = sh at *
      have hk2 : ((k + sh : Nat) : Int) - (k : Int) = (sh : Int) := by omega
      have hk3 : k + sh ≤ 200003 := by omega
      generalize hk' : k + sh = k' at *
      have HK := Lib.hid hk'
      have HST := Lib.hid HST0.out
      have HFIN2 : Hid (InI (stepI (k, L, R) cs s) b) := Lib.hid (by rw [HST.out]; exact HFIN.out)
      clear hk' hL2 HST0 HFIN
      have c2 := H9.tail.cell 2 rfl
      have f2 := H9.tail.froz 2
      have hsub : (h : Int) - (pf : Int) = ((h - pf : Nat) : Int) := by omega
      have hsw : IntKind.u64.wrap ((h : Int) - (pf : Int)) = (h : Int) - (pf : Int) := by
        rw [hsub]
        simp only [IntKind.wrap, IntKind.signed, IntKind.bits]
        first | omega | (simp; omega)
      have HSUB := Lib.hid hsub
      clear hsub
      have H10 := H9.swap.set 2 (.int .u64 ((h : Int) - (pf : Int)))
      have H11 := Enc.open H10.swap
      obtain ⟨ea2, ec2, H11⟩ := H11
      have d3 := H10.cell 3 rfl
      have d0 := H11.cell 0 rfl
      go_wp2_with fail
      clear d3 d0 H11 c2 f2
      have eh : ((h : Int) - (pf : Int)) = (havN b (k + 4) (L + pf) 0 : Int) := by rw [HSUB.out, HAV.out]
      rw [eh] at H10 ⊢
      clear eh
      have H12 := Sep.cons_congr H10 (fun _ => SepOn.perm (.swap _ _ _) _)
      clear H9 H10
      generalize w8.setCell ⟨q, 2, none⟩ (.int .u64 (havN b (k + 4) (L + pf) 0 : Int)) = W at *
      go_loopg [96] sh (fun gk i wr => ∃ j : Nat, Hid (j ≤ sh ∧ gk = sh - j) ∧ i = .int .i64 (j : Int) ∧ Sep wr (HP.pt q #[.slice sa b.length sc, .int .i64 ((k + 4 + j : Nat) : Int), .int .u64 (havN b (k + 4) (L + pf) j : Int), .pointer (some ⟨qe, 0, none⟩)] 131 :: HP.row 5 1 (.slice sa b.length sc) b.length (b.map bv) :: Enc qe k' L2 R2 :: Tbl bt cs :: F))
      case atStart => exact ⟨0, Lib.hid ⟨by omega, rfl⟩, rfl, H12⟩
      case round =>
        clear H12
        obtain ⟨j, hq, rfl, Hr⟩ := hrel
        obtain ⟨q1, q2⟩ := hq.out
        clear hq
        by_cases hj : j < sh
        · have hji : (j : Int) < (k' : Int) - (k : Int) := by omega
          obtain ⟨hv1, hv2⟩ := HWID.out j (by omega)
          have hd := wide_get_lt hlt (k + 4 + j)
          have c0 := Hr.cell 2 rfl
          have c1 := Hr.drew.cell 2 rfl
          have HNX := Lib.hid (next_calls (by omega) hlt Hr.drew)
          have hor := or_byte (show havN b (k + 4) (L + pf) j < 1099511627776 by omega) hd
          have HS := Lib.hid hv2
          clear hv2
          generalize havN b (k + 4) (L + pf) j = V at *
          generalize b.getD (k + 4 + j) 0 = d at *
          have hw : IntKind.u64.wrap ((V : Int) * 256) = (V : Int) * 256 := by
            simp only [IntKind.wrap, IntKind.signed, IntKind.bits]
            first | omega | (simp; omega)
          go_wp2_with fail
          go_region_with (first | (go_at_call 100; refine HNX.out.mono ?_; rintro _ w5 ⟨rfl, H5⟩; have c5 := H5.cell 2 rfl; have f5 := H5.froz 2))
          all_goals (
            have H6 := H5.set 2 (.int .u64 ((V : Int) * 256 + (d : Int)))
            have e6 : ((V : Int) * 256 + (d : Int)) = ((havN b (k + 4) (L + pf) (j + 1) : Nat) : Int) := by rw [HS.out]; omega
            rw [e6] at H6 ⊢
            clear c5 f5
            go_wp2_with fail
            go_roundg (sh - (j + 1))
            case rel => exact ⟨j + 1, Lib.hid ⟨by omega, rfl⟩, by go_num, H6⟩
            case measure => omega)
        · obtain rfl : j = sh := by omega
          have hji : ¬ (j : Int) < (k' : Int) - (k : Int) := by omega
          have hend : havN b (k + 4) (L + pf) j = valD (wideL b (k' + 4)) - L2 := by
            unfold havN
            rw [show k + 4 + j = k' + 4 by have := HK.out; omega, HL2.out]
          rw [hend, show k + 4 + j = k' + 4 by have := HK.out; omega] at Hr
          clear hend
          go_wp2_with fail
          go_ret2
          exact ⟨s, rfl, f1, HFIN2.out, by rw [HST.out]; exact Sep.cons_congr (Sep.ex_intro qe (DecAt.shut Hr)) (fun _ h => h)⟩)

end Go.Proofs.Ytbhpcpcpccmacaa
