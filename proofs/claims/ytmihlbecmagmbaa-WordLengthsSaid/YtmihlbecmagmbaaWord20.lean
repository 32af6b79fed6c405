/- word: Count. -/
import Derived.Test.YtmihlbecmagmbaaMap
import Derived.Test.YtmihlbecmagmbaaWord12
namespace Go.Proofs.Ytmihlbecmagmbaa
open Go.RowKit Go.Shelf

def key (c : UInt8) : Lit := .int .u8 (c.toNat : Int)
def zero0 : MD := .lit (.int .i64 0)
def num : MD → Int
  | .lit (.int _ c) => c
  | _ => 0
def stepD (D : MD) (c : UInt8) : MD := if (kindOf c).isSome then D.put (key c) (.lit (.int .i64 (num (D.atKey (key c) zero0) + 1))) else D
/-- How often each letter comes. -/
def cntD (l : List UInt8) : MD := l.foldl stepD (.map [])
def cnt (l : List UInt8) (c : UInt8) : Nat := if (kindOf c).isSome then l.count c else 0
theorem cntD_snoc (l : List UInt8) (c : UInt8) : cntD (l ++ [c]) = stepD (cntD l) c := by simp [cntD]
theorem key_inj {c x : UInt8} (h : key c = key x) : c = x := by
  unfold key at h
  injection h with _ h
  exact UInt8.toNat_inj.1 (by omega)
theorem key_wf (c : UInt8) : (Lit.int .u8 (c.toNat : Int)).wf = true := by
  have := c.toNat_lt
  simp [Lit.wf, IntKind.min, IntKind.max, IntKind.signed, IntKind.bits]
  omega
theorem key_lit (c : UInt8) : WideAt.IsKeyLit (key c) := by first | trivial | exact key_wf c | simp [key, WideAt.IsKeyLit]
theorem cnt_cons (x : UInt8) (l : List UInt8) (c : UInt8) : cnt (x :: l) c = cnt l c + (if (kindOf x).isSome ∧ x = c then 1 else 0) := by
  unfold cnt
  by_cases h : x = c
  · subst h
    by_cases hk : (kindOf x).isSome
    · simp [hk]
    · simp [hk]
  · by_cases hk : (kindOf c).isSome
    · simp [hk, h]
    · simp [hk, h]
theorem foldl_at : ∀ (l : List UInt8) (D : MD) (f : UInt8 → Int), Maps.IsMap D → (∀ c, D.atKey (key c) zero0 = .lit (.int .i64 (f c))) → Maps.IsMap (l.foldl stepD D) ∧ ∀ c, (l.foldl stepD D).atKey (key c) zero0 = .lit (.int .i64 (f c + (cnt l c : Int)))
  | [], D, f, h1, h2 => ⟨h1, fun c => by rw [List.foldl_nil, h2]; simp [cnt]⟩
  | x :: l, D, f, h1, h2 => by
    rw [List.foldl_cons]
    have hs : Maps.IsMap (stepD D x) ∧ ∀ c, (stepD D x).atKey (key c) zero0 = .lit (.int .i64 (f c + ((if (kindOf x).isSome ∧ x = c then 1 else 0 : Nat) : Int))) := by
      unfold stepD
      by_cases hk : (kindOf x).isSome
      · rw [if_pos hk, h2]
        refine ⟨h1.put _ _, fun c => ?_⟩
        by_cases hc : x = c
        · subst hc
          rw [Maps.atKey_put_same h1 (key_lit x), if_pos ⟨hk, rfl⟩]
          simp [num]
        · rw [Maps.atKey_put_other (fun e => hc (key_inj e).symm), h2, if_neg (fun h => hc h.2)]
          simp
      · rw [if_neg hk]
        exact ⟨h1, fun c => by rw [h2, if_neg (fun h => hk h.1)]; simp⟩
    obtain ⟨g1, g2⟩ := foldl_at l _ _ hs.1 hs.2
    refine ⟨g1, fun c => ?_⟩
    rw [g2, cnt_cons]
    congr 2
    push_cast
    omega
theorem cntD_at (l : List UInt8) (c : UInt8) : (cntD l).atKey (key c) zero0 = .lit (.int .i64 (cnt l c : Int)) := by
  have := (foldl_at l (.map []) (fun _ => 0) ⟨[], rfl⟩ (fun _ => rfl)).2 c
  rw [Int.zero_add] at this
  exact this
theorem cnt_le (l : List UInt8) (c : UInt8) : cnt l c ≤ l.length := by
  unfold cnt
  split
  · exact List.count_le_length
  · exact Nat.zero_le _

set_option maxRecDepth 100000 in
set_option maxHeartbeats 2000000 in
theorem count_calls {l : List UInt8} {R : List HP} {w : World} (hlen : l.length ≤ 100000) (H : Sep w R) :
    Calls Try.prog 22 #[.string (str l)] w fun e w' => ∃ b, e = .returned (.map (some b)) ∧ Sep w' (HP.mp b l.length (cntD l) :: R) := by
  have hcv := fun w => Lib.run_convert_string_bytes (P := Try.prog) w 9 40 5 (str l) (u := .string) Try.underlying9 Try.underlying40 Try.underlying5
  have hmm := @run_makeMap Try.prog
  have hss := str_size l
  have H0 := H.mp_make
  obtain ⟨o, H1, hread⟩ := H0.conv 5 l
  rw [World.size_alloc] at H1 hread
  go_enter Try.func22, Try.ntmps22
  go_wp2_with fail
  generalize Lib.bytesWorld (w.alloc (.map #[] 0)) 5 (str l) = w1 at *
  generalize grownCap (w.alloc (.map #[] 0)) l.length 0 5 = cap at *
  generalize w.heap.size + 1 = g at *
  generalize w.heap.size = b at *
  have HRD := Lib.hid hread
  clear hread hcv hmm H H0
  go_loopg [12] l.length (fun gk i wr => ∃ t : Nat, Hid (t ≤ l.length ∧ gk = l.length - t) ∧ i = .int .i64 (t : Int) ∧ Sep wr (HP.mp b t (cntD (l.take t)) :: HP.obj g o :: R))
  case atStart => exact ⟨0, Lib.hid ⟨by omega, rfl⟩, rfl, H1.swap⟩
  case round =>
    clear H1
    obtain ⟨t, hq, rfl, Hr⟩ := hrel
    obtain ⟨q1, q2⟩ := hq.out
    clear hq
    by_cases c : t < l.length
    · have hrd := HRD.out wr _ cap Hr.swap
      have c1 := hrd.cell t (by rw [List.getElem?_map, List.getElem?_eq_getElem c]; rfl)
      rw [Nat.zero_add] at c1
      unfold lv at c1
      have hcc := fun w => code_calls (c := l[t]) (w := w)
      have HC := Lib.hid hcc
      have hcd : cntD (l.take (t + 1)) = stepD (cntD (l.take t)) l[t] := by rw [List.take_succ_eq_append_getElem c, cntD_snoc]
      have hca := cntD_at (l.take t) l[t]
      have hcle := cnt_le (l.take t) l[t]
      rw [List.length_take] at hcle
      have hst : stepD (cntD (l.take t)) l[t] = if (kindOf l[t]).isSome then (cntD (l.take t)).put (key l[t]) (.lit (.int .i64 (num ((cntD (l.take t)).atKey (key l[t]) zero0) + 1))) else cntD (l.take t) := rfl
      have hkw := key_wf l[t]
      clear hcc hrd
      cases hk : kindOf l[t] with
      | none =>
        have hcl := codeL_none hk
        rw [hk, if_neg (by simp)] at hst
        rw [hcl] at HC
        have HCD := Lib.hid (hcd.trans hst)
        clear hcd hst hca hcl hk hkw
        generalize codeV l[t] = V at *
        generalize l[t].toNat = x at *
        go_wp2_with fail
        refine (HC.out _).mono ?_
        rintro e w2 ⟨rfl, rfl⟩
        go_wp2_with fail
        go_roundg (l.length - (t + 1))
        case rel => exact ⟨t + 1, Lib.hid ⟨by omega, rfl⟩, by go_num, by rw [HCD.out]; exact Hr.mp_put (Hr.mp_owns.mono (by omega)) (World.grownBy.refl _ _)⟩
        case measure => omega
      | some k =>
        have hpos := codeL_pos hk
        rw [hk] at hst
        simp only [Option.isSome_some, if_true] at hst
        rw [hca] at hst
        have HCD := Lib.hid (hcd.trans hst)
        have HCA := Lib.hid hca
        have hown := Hr.mp_owns
        have hkey : keyOf Try.prog 5 (.int .u8 (l[t].toNat : Int)) = some (key l[t]) := Maps.keyOf_int_mk Try.underlying5 hkw
        have HKW := Lib.hid hkw
        clear hcd hst hca hk hkw
        generalize hkx : key l[t] = kx at *
        have HKX := Lib.hid hkx
        clear hkx
        generalize codeV l[t] = V at *
        generalize l[t].toNat = x at *
        generalize cnt (l.take t) l[t] = m at *
        generalize (codeL l[t]).length = z at *
        generalize cntD (l.take t) = D at *
        have hzp : (0 : Int) < (z : Int) := by omega
        have hwf : (Lit.int .i64 ((m : Int) + 1)).wf = true := by simp [Lit.wf, IntKind.min, IntKind.max, IntKind.signed, IntKind.bits]; omega
        have hn : t < maxLen := by unfold maxLen; omega
        have hval : rdI (.int .i64 ((m : Int) + 1)) = some (.lit (.int .i64 ((m : Int) + 1)), []) := plainElem_int Try.underlying3 hwf
        go_wp2_with fail
        refine (HC.out _).mono ?_
        rintro e w2 ⟨rfl, rfl⟩
        go_wp2_with (first
          | (at_lookup; refine wpList_lookup_own_int _ rfl _ _ 34 rfl 5 3 .i64 (Maps.int_keyed Try.underlying5) Try.underlying34 Try.underlying3 (Try.zeroValue3 _) b t D rfl hown _ _ rfl hkey ?_; intro cc hat hwc; obtain rfl : cc = (m : Int) := congrArg num (hat.symm.trans HCA.out))
          | (at_mapUpdate; refine wpList_mapUpdate_own _ rfl _ _ _ 34 rfl 5 3 (Maps.int_keyed Try.underlying5) Try.underlying34 rdI b t D rfl hown hn _ _ _ rfl rfl hkey _ [] hval ?_; intro w3 hown3 hgr3))
        have H3 := Hr.mp_put hown3 hgr3
        go_roundg (l.length - (t + 1))
        case rel => exact ⟨t + 1, Lib.hid ⟨by omega, rfl⟩, by go_num, by rw [HCD.out]; exact H3⟩
        case measure => omega
    · obtain rfl : t = l.length := by omega
      rw [List.take_length] at Hr
      go_wp2_with fail
      go_ret
      exact ⟨b, rfl, Hr.swap.tail⟩

end Go.Proofs.Ytmihlbecmagmbaa
