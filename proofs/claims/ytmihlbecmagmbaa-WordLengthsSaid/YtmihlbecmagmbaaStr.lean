/- Bits as a text of 0 and 1: plain. -/
import Derived.Test.YtmihlbecmagmbaaPlain3
namespace Go.Proofs.Ytmihlbecmagmbaa

def chr (x : Bool) : UInt8 := if x then 49 else 48
def bitStr (l : List Bool) : ByteArray := ⟨(l.map chr).toArray⟩

theorem bitStr_size (l : List Bool) : (bitStr l).size = l.length := by simp [bitStr, ByteArray.size]
theorem ba_ext {a b : ByteArray} (h : a.data.toList = b.data.toList) : a = b := by
  cases a with | mk x => cases b with | mk y =>
  have h' : x.toList = y.toList := h
  rw [Array.toList_inj.1 h']
theorem ba_append (a b : ByteArray) : (a ++ b).data.toList = a.data.toList ++ b.data.toList := by simp
theorem bitStr_append (a b : List Bool) : bitStr a ++ bitStr b = bitStr (a ++ b) := by
  apply ba_ext
  rw [ba_append]
  simp [bitStr]
theorem bitStr_true (l : List Bool) : (⟨#[49]⟩ : ByteArray) ++ bitStr l = bitStr (true :: l) := bitStr_append [true] l
theorem bitStr_false (l : List Bool) : (⟨#[48]⟩ : ByteArray) ++ bitStr l = bitStr (false :: l) := bitStr_append [false] l
theorem bitStr_nil : (⟨#[]⟩ : ByteArray) = bitStr [] := rfl

theorem chr_inj {x y : Bool} (h : chr x = chr y) : x = y := by
  cases x <;> cases y <;> first | rfl | exact absurd h (by decide)
theorem map_chr_inj : ∀ {a b : List Bool}, a.map chr = b.map chr → a = b
  | [], [], _ => rfl
  | [], _ :: _, h => by simp at h
  | _ :: _, [], h => by simp at h
  | x :: a, y :: b, h => by
    simp only [List.map_cons, List.cons.injEq] at h
    rw [chr_inj h.1, map_chr_inj h.2]
theorem bitStr_inj {a b : List Bool} (h : bitStr a = bitStr b) : a = b := by
  apply map_chr_inj
  have : (bitStr a).data.toList = (bitStr b).data.toList := by rw [h]
  simpa [bitStr] using this

theorem valBits_cons (v k : Nat) : valBits v (k + 1) = v.testBit k :: valBits v k := by
  unfold valBits
  rw [List.range_succ_eq_map]
  simp only [List.map_cons, List.map_map]
  congr 1
  refine List.map_congr_left fun i _ => ?_
  simp only [Function.comp]
  congr 1; omega

theorem all_pk (l : List Bool) : (allBits (pk l)).take l.length = l := by
  have hlen : ((allBits (pk l)).take l.length).length = l.length := by rw [List.length_take, allBits_length, pk_length]; omega
  apply List.ext_getElem
  · exact hlen
  intro i h1 h2
  have hi : i / 8 < (pk l).length := by rw [pk_length]; omega
  have e : i = 8 * (i / 8) + i % 8 := by omega
  have hg := allBits_get (pk l) (i / 8) (i % 8) (by omega) hi
  rw [← e] at hg
  have hp : (pk l)[i / 8] = byteAt l (i / 8) := by
    have := pkN_getElem? l ((l.length + 7) / 8) (i / 8) (by omega)
    unfold pk at hi ⊢
    rw [List.getElem?_eq_getElem (by rw [pkN_length]; omega)] at this
    exact Option.some.inj this
  have hl : i < (allBits (pk l)).length := by rw [allBits_length, pk_length]; omega
  rw [List.getD, List.getElem?_eq_getElem hl, Option.getD_some, hp] at hg
  rw [List.getElem_take, hg]
  have hb := byteAt_bit l i
  rw [Nat.testBit_eq_decide_div_mod_eq, hb]
  unfold bit
  rw [List.getD, List.getElem?_eq_getElem h2, Option.getD_some]
  cases l[i] <;> rfl

end Go.Proofs.Ytmihlbecmagmbaa
