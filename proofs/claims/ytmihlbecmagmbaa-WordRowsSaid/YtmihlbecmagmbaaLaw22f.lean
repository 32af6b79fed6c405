/- Law 22: WordRows. -/
import Derived.Test.YtmihlbecmagmbaaLaw22a
import Derived.Test.YtmihlbecmagmbaaWord15
import Derived.Test.YtmihlbecmagmbaaWord18
import Derived.Test.YtmihlbecmagmbaaWord19
import Derived.Test.YtmihlbecmagmbaaIntRows
namespace Go.Proofs.Ytmihlbecmagmbaa
open Go.RowKit Go.Shelf

theorem info_string : (Try.prog.info? 9).map (fun i => (i.zero, i.size, i.bytes)) = some (some (.string ⟨#[]⟩), 1, 16) := by kernel_rfl

/-- The bits of words. -/
def wjoin (ws : List (List UInt8)) : List Bool := ws.flatMap wbits
theorem wjoin_snoc (ws : List (List UInt8)) (l : List UInt8) : wjoin (ws ++ [l]) = wjoin ws ++ wbits l := by simp [wjoin]
theorem wjoin_le : ∀ {ws : List (List UInt8)}, (∀ l ∈ ws, rightB l = true ∧ l.length ≤ 81) → (wjoin ws).length ≤ 243 * ws.length
  | [], _ => by simp [wjoin]
  | l :: ws, h => by
    have h1 := wjoin_le (ws := ws) fun x hx => h x (List.mem_cons_of_mem _ hx)
    have h2 := (h l (List.mem_cons_self ..)).2
    have h3 := wbits_le l
    simp only [wjoin, List.flatMap_cons, List.length_append, List.length_cons] at *
    omega
theorem wjoin_split {ws : List (List UInt8)} {j : Nat} (cj : j < ws.length) : wjoin ws = wjoin (ws.take j) ++ (wbits ws[j] ++ wjoin (ws.drop (j + 1))) := by
  have h1 : wjoin ws = wjoin (ws.take j ++ ws.drop j) := by rw [List.take_append_drop]
  rw [h1, List.drop_eq_getElem_cons cj]
  simp only [wjoin, List.flatMap_append, List.flatMap_cons]
def strv (l : List UInt8) : Value := .string (str l)

set_option maxRecDepth 100000 in
set_option maxHeartbeats 8000000 in
theorem law_WordRows (v : Value) (rows : List (Value × List Int)) {w : World} (hrows : IntRows w v rows) :
    Calls Try.prog 10 #[v] w fun e w' => e = .returned (.bool true) ∧ Below w.heap.size w w' := by
  obtain ⟨hrd, hel⟩ := hrows
  obtain ⟨va, vc, rfl⟩ := hrd.form
  have H := Sep.start w
  have HRD : Hid (Reads [HP.old w.heap.size w] (.slice va rows.length vc) rows.length 1 (rows.map (·.1))) := Lib.hid (Reads.old hrd)
  have HEL : Hid (∀ p ∈ rows, Reads [HP.old w.heap.size w] p.1 p.2.length 1 (p.2.map iv) ∧ ∀ x ∈ p.2, -9223372036854775808 ≤ x ∧ x ≤ 9223372036854775807) := Lib.hid fun p hp => ⟨Reads.old (hel p hp).1, (hel p hp).2⟩
  clear hrd hel
  generalize hB : HP.old w.heap.size w = O at H HRD HEL
  have HB := Lib.hid hB; clear hB
  by_cases hfew : 4 < rows.length
  · go_enter Try.func10, Try.ntmps10
    go_wp2_with fail
    refine (awake22 H).mono ?_
    rintro e w1 ⟨rfl, H1⟩
    go_wp2_with fail
    go_ret
    subst HB
    exact ⟨rfl, H1.below⟩
  go_enter Try.func10, Try.ntmps10
  go_wp2_with fail
  refine (awake22 H).mono ?_
  rintro e w1 ⟨rfl, H1⟩
  clear H
  have H2 := (Wr.new H1).row_nil 9 1
  go_wp2_with fail
  generalize w1.heap.size = q at *
  generalize w1.alloc (.cells #[.slice none 0 0, .int .i64 0] 42) = w2 at *
  clear H1
  go_loopg [4, 24] rows.length (fun gk wv i wr => ∃ (t : Nat) (ws : List (List UInt8)), Hid (t ≤ rows.length ∧ gk = rows.length - t ∧ ws.length = t) ∧ Hid (∀ l ∈ ws, rightB l = true ∧ l.length ≤ 81) ∧ i = .int .i64 (t : Int) ∧ Sep wr (HP.row 9 1 wv ws.length (ws.map strv) :: Wr q (wjoin ws) :: [O]))
  case atStart => exact ⟨0, [], Lib.hid ⟨by omega, rfl, rfl⟩, Lib.hid (fun l hl => by cases hl), rfl, H2⟩
  case round =>
    clear H2
    obtain ⟨t, ws, hq, hws, rfl, Hr⟩ := hrel
    obtain ⟨q1, q2, q3⟩ := hq.out
    clear hq
    subst q3
    have hjl := wjoin_le hws.out
    obtain ⟨wa, wc, rfl⟩ := Hr.row_form
    by_cases c : ws.length < rows.length
    · have hrw := HRD.out _ Hr.tail.tail
      obtain ⟨g2, o2, c2, he⟩ := hrw.open (by omega)
      simp only [Value.slice.injEq, true_and] at he
      obtain ⟨rfl, rfl⟩ := he
      have k0 := hrw.cell ws.length (u := rows[ws.length].1) (by rw [List.getElem?_map, List.getElem?_eq_getElem c]; rfl)
      obtain ⟨e1, e2⟩ := HEL.out _ (List.getElem_mem c)
      generalize rows[ws.length] = p at *
      obtain ⟨pv, xs⟩ := p
      simp only at k0 e1 e2
      obtain ⟨pa, pc, rfl⟩ := (e1 _ Hr.tail.tail).form
      have HE1 := Lib.hid e1
      have HE2 := Lib.hid e2
      have hcI : (ws.length : Int) < (rows.length : Int) := by omega
      clear hrw e1 e2
      by_cases hmany : 60 < xs.length
      · have hg := fun w1 (h : RdS w1 (.slice pa xs.length pc) xs.length 1 (xs.map iv)) => grown_many (w := w1) hmany h
        have HG := Lib.hid hg
        clear hg
        go_wp2_with fail
        refine (HG.out _ (HE1.out _ Hr.tail.tail)).mono ?_
        rintro e w3 ⟨rfl, rfl⟩
        go_wp2_with fail
        go_ret
        subst HB
        exact ⟨rfl, Hr.tail.tail.below⟩
      · have HG := Lib.hid (fun w1 (R1 : List HP) (hR : Reads R1 (.slice pa xs.length pc) xs.length 1 (xs.map iv)) (h : Sep w1 R1) => grown_calls HE2.out (by omega) hR h)
        by_cases hx40 : 40 < xs.length
        · go_wp2_with fail
          refine (HG.out _ _ HE1.out Hr.tail.tail).mono ?_
          rintro e w3 ⟨r, rfl, ⟨l, rfl, h1, h2⟩, H3⟩
          go_wp2_with fail
          go_ret
          subst HB
          exact ⟨rfl, H3.below⟩
        · go_wp2_with fail
          refine (HG.out _ _ HE1.out.cons.cons Hr).mono ?_
          rintro e w3 ⟨r, rfl, ⟨l, rfl, h1, h2⟩, H3⟩
          have henc := fun w1 (R1 : List HP) (h : Sep w1 (Wr q (wjoin ws) :: R1)) => wencode_ok h1 (by omega) (by omega) h
          have HENC := Lib.hid henc
          have HNW : Hid (∀ x ∈ ws ++ [l], rightB x = true ∧ x.length ≤ 81) := Lib.hid fun x hx => by
            rcases List.mem_append.1 hx with hx | hx
            · exact hws.out x hx
            · have : x = l := by simpa using hx
              subst this
              exact ⟨h1, by omega⟩
          have hm : ws.map strv ++ [.string (str l)] = (ws ++ [l]).map strv := by simp [strv]
          have hj : wjoin ws ++ wbits l = wjoin (ws ++ [l]) := (wjoin_snoc ws l).symm
          have hwl : (ws ++ [l]).length = ws.length + 1 := by simp
          have HM := Lib.hid hm
          have HJ := Lib.hid hj
          have h63 : ws.length + 1 ≤ maxLen := by simp only [maxLen]; omega
          have hby : (ws.length + 1) * 16 ≤ 140737488355328 := by omega
          clear henc hm hj h1 h2
          go_wp2_with ((at_builtin; go_must (refine wpList_append_one rfl (.tmp 40) (.tmp 42) 56 rfl 9 (.string ⟨#[]⟩) 16 Try.underlying56 info_string rfl (.slice wa ws.length wc) ws.length _ (.string (str l)) rfl rfl H3 rfl h63 hby ?_); intro g7 c7 w7 H7; rw [HM.out] at H7))
          refine (HENC.out _ _ H7.swap).mono ?_
          rintro e w8 ⟨rfl, H8⟩
          rw [HJ.out] at H8
          go_wp2_with fail
          go_roundg (rows.length - (ws.length + 1))
          case rel => exact ⟨ws.length + 1, ws ++ [l], Lib.hid ⟨by omega, rfl, hwl⟩, HNW, by go_num, by rw [hwl]; exact H8.swap⟩
          case measure => omega
    · have hcI : ¬ (ws.length : Int) < (rows.length : Int) := by omega
      have HJL := Lib.hid hjl
      have hJ1 : (wjoin ws).length ≤ 1000 := by omega
      go_wp2_with fail
      refine (bytes_ok (by omega) Hr.swap).mono ?_
      rintro e w3 ⟨r3, rfl, H3⟩
      obtain ⟨ra, rc, rfl⟩ := H3.row_form
      clear Hr
      go_wp2_with fail
      refine (len_calls H3.tail).mono ?_
      rintro e w4 ⟨rfl, rfl⟩
      go_wp2_with fail
      refine (nr_ok (by omega) H3.rd H3).mono ?_
      rintro e w5 ⟨r5, rfl, b, rfl, H5⟩
      have H6 : Sep w5 (Rdr b (wjoin ws) (wjoin (ws.take 0)).length :: HP.row 9 1 (.slice wa ws.length wc) ws.length (ws.map strv) :: [O]) := H5.swap.tail.swap.tail
      clear H3 H5
      go_wp2_with fail
      go_loopg [61] ws.length (fun gk i wx => ∃ j : Nat, Hid (j ≤ ws.length ∧ gk = ws.length - j) ∧ i = .int .i64 (j : Int) ∧ Sep wx (Rdr b (wjoin ws) (wjoin (ws.take j)).length :: HP.row 9 1 (.slice wa ws.length wc) ws.length (ws.map strv) :: [O]))
      case atStart => exact ⟨0, Lib.hid ⟨by omega, rfl⟩, rfl, H6⟩
      case round =>
        clear H6
        obtain ⟨j, hj, rfl, Hx⟩ := hrel
        obtain ⟨p1, p2⟩ := hj.out
        clear hj
        by_cases cj : j < ws.length
        · have hrw := Hx.tail.rd
          obtain ⟨g2, o2, c2, he⟩ := hrw.open (by omega)
          simp only [Value.slice.injEq, true_and] at he
          obtain ⟨rfl, rfl⟩ := he
          have k0 := hrw.cell j (u := .string (str ws[j])) (by rw [List.getElem?_map, List.getElem?_eq_getElem cj]; rfl)
          have hspl : wjoin ws = wjoin (ws.take j) ++ (wbits ws[j] ++ wjoin (ws.drop (j + 1))) := wjoin_split cj
          have hdr : (wjoin ws).drop (wjoin (ws.take j)).length = wbits ws[j] ++ wjoin (ws.drop (j + 1)) := by
            rw [hspl]
            exact List.drop_left
          have hpl : (wjoin (ws.take j)).length ≤ (wjoin ws).length := by rw [hspl, List.length_append]; omega
          have hnx : (wjoin (ws.take (j + 1))).length = (wjoin (ws.take j)).length + (wbits ws[j]).length := by
            rw [List.take_succ_eq_append_getElem cj, wjoin_snoc, List.length_append]
          have hwd := wdecode_calls (by omega) hpl Hx
          rw [hdr, decA_wbits (hws.out _ (List.getElem_mem cj)).1] at hwd
          have HNX := Lib.hid hnx
          have hcJ : (j : Int) < (ws.length : Int) := by omega
          have HWD := Lib.hid hwd
          clear hrw hspl hdr hpl hnx hwd
          generalize ws[j] = l at *
          go_wp2_with fail
          refine HWD.out.mono ?_
          rintro e w7 ⟨rfl, i', H7, hi⟩
          have hi2 : i' = (wjoin (ws.take j)).length + (wbits l).length := hi rfl
          rw [hi2, ← HNX.out] at H7
          clear hi hi2
          go_wp2_with fail
          go_roundg (ws.length - (j + 1))
          case rel => exact ⟨j + 1, Lib.hid ⟨by omega, rfl⟩, by go_num, H7⟩
          case measure => omega
        · obtain rfl : j = ws.length := by omega
          have hcJ : ¬ (ws.length : Int) < (ws.length : Int) := by omega
          rw [List.take_length] at Hx
          have hlf := left_ok (Nat.le_refl _) (by omega) Hx
          have e0 : ((wjoin ws).length : Int) - ((wjoin ws).length : Int) = 0 := by omega
          rw [e0] at hlf
          have HLF := Lib.hid hlf
          clear hlf e0
          go_wp2_with fail
          refine HLF.out.mono ?_
          rintro e w7 ⟨rfl, n7, rfl⟩
          go_wp2_with fail
          go_ret
          subst HB
          exact ⟨rfl, (Hx.drewN n7).tail.tail.below⟩

end Go.Proofs.Ytmihlbecmagmbaa
