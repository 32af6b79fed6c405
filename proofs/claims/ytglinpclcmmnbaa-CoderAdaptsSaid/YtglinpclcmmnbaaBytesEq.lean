/- Bytes as a string; bytes.Equal. -/
import Derived.Test.YtglinpclcmmnbaaCod5
import Derived.Laws.BytesArg
namespace Go.Proofs.Ytglinpclcmmnbaa
open Go.RowKit Go.Shelf

/-- The string of some bytes. -/
def baD (l : List Nat) : ByteArray := ⟨(l.map UInt8.ofNat).toArray⟩
theorem baD_strOfNums (l : List Nat) : strOfNums (l.map fun d : Nat => (d : Int)) = baD l := by
  unfold strOfNums baD
  rw [List.map_map]
  rfl
theorem ofNat8_inj : ∀ {a b : List Nat}, (∀ d ∈ a, d < 256) → (∀ d ∈ b, d < 256) → a.map UInt8.ofNat = b.map UInt8.ofNat → a = b
  | [], [], _, _, _ => rfl
  | [], _ :: _, _, _, h => by simp at h
  | _ :: _, [], _, _, h => by simp at h
  | x :: a, y :: b, h1, h2, h => by
    simp only [List.map_cons, List.cons.injEq] at h
    have e : (UInt8.ofNat x).toNat = (UInt8.ofNat y).toNat := by rw [h.1]
    have hx := h1 x (by simp)
    have hy := h2 y (by simp)
    rw [UInt8.toNat_ofNat', UInt8.toNat_ofNat', Nat.mod_eq_of_lt (by omega), Nat.mod_eq_of_lt (by omega)] at e
    rw [e, ofNat8_inj (fun d hd => h1 d (by simp [hd])) (fun d hd => h2 d (by simp [hd])) h.2]
theorem baD_beq {a b : List Nat} (h1 : ∀ d ∈ a, d < 256) (h2 : ∀ d ∈ b, d < 256) : ((baD a).data.toList == (baD b).data.toList) = decide (a = b) := by
  by_cases h : a = b
  · subst h; simp
  · rw [decide_eq_false h, beq_eq_false_iff_ne]
    exact fun e => h (ofNat8_inj h1 h2 (by simpa [baD] using e))
theorem baD_toList_beq {a b : List Nat} (h1 : ∀ d ∈ a, d < 256) (h2 : ∀ d ∈ b, d < 256) : ((baD a).toList == (baD b).toList) = decide (a = b) := by
  have e : ∀ l, (baD l).toList = (baD l).data.toList := fun l => by simp [ByteArray.toList_eq]
  rw [e, e, baD_beq h1 h2]
theorem conv_bytes {v : Value} {l : List Nat} {w : World} (hrd : RdS w v l.length 1 (l.map bv)) : (convert 61 9 v).run Try.prog w = .ok (.string (baD l)) w := by
  rcases Nat.eq_zero_or_pos l.length with h0 | h0
  · obtain rfl := List.eq_nil_of_length_eq_zero h0
    rcases hrd.2 with ⟨rfl, _⟩ | ⟨ad, cap, rfl, _⟩
    · exact run_convert_bytes_nil w 61 5 Try.underlying61 Try.underlying5 0 0 9 Try.underlying9
    · rw [List.length_nil, run_convert_bytes_string w 61 9 5 _ _ cap Try.underlying61 Try.underlying5 Try.underlying9]
      rw [run_bytesToString w ad 0 cap [] (by
        have := run_loadCells_list (P := Try.prog) w ad [] (fun j v hj => by simp at hj)
        simpa using this)]
      rfl
  · obtain ⟨g, o, cap, rfl⟩ := hrd.open (by omega)
    rw [← baD_strOfNums]
    refine run_convert_bytes_arg w 61 5 Try.underlying61 Try.underlying5 g o l.length cap _ (by rw [List.length_map]) (fun i hi => ?_) 9 Try.underlying9
    have hg : (l.map bv)[i]? = some (.int .u8 (l[i] : Int)) := by simp [bv, List.getElem?_eq_getElem hi]
    rw [hrd.cell i hg]
    simp [List.getD, List.getElem?_eq_getElem hi]

set_option maxRecDepth 100000 in
theorem bequal_calls {va vb : Value} {xs ys : List Nat} {w : World} (h1 : ∀ d ∈ xs, d < 256) (h2 : ∀ d ∈ ys, d < 256) (ha : RdS w va xs.length 1 (xs.map bv)) (hb : RdS w vb ys.length 1 (ys.map bv)) :
    Calls Try.prog 64 #[va, vb] w fun e w' => e = .returned (.bool (decide (xs = ys))) ∧ w = w' := by
  have c1 := conv_bytes ha
  have c2 := conv_bytes hb
  have hq := Lib.hid (baD_toList_beq h1 h2)
  clear ha hb h1 h2
  go_enter Try.func64, Try.ntmps64
  go_wp2_with fail
  go_ret
  exact ⟨by rw [← hq.out]; rfl, rfl⟩

end Go.Proofs.Ytglinpclcmmnbaa
