/- word: code; a string's letters. -/
import Derived.Test.YtmihlbecmagmbaaWordPlain3
import Derived.Test.YtmihlbecmagmbaaRange
import Derived.Test.YtmihlbecmagmbaaBits4
import Derived.Test.YtmihlbecmagmbaaStr
import Derived.Lib.ConvBytes
import Derived.Shelf.Abstract
namespace Go.Proofs.Ytmihlbecmagmbaa
open Go.RowKit Go.Shelf

/-- Letters, as a string. -/
def str (l : List UInt8) : ByteArray := ⟨l.toArray⟩
theorem str_size (l : List UInt8) : (str l).size = l.length := by simp [str, ByteArray.size]
theorem str_at {l : List UInt8} {k : Nat} (_h : k < l.length) (h2 : k < (str l).size) : (str l)[k] = l[k] := by
  rfl
theorem str_data (b : ByteArray) : str b.data.toList = b := by
  apply ba_ext
  simp [str]
theorem str_append (a b : List UInt8) : str a ++ str b = str (a ++ b) := by
  apply ba_ext
  rw [ba_append]
  simp [str]

/-- A byte. -/
def lv (c : UInt8) : Value := .int .u8 (c.toNat : Int)

theorem kind_cases (c : UInt8) : (kindOf c = some .C ∧ c.toNat = 67) ∨ (kindOf c = some .S ∧ c.toNat = 83) ∨ (kindOf c = some .R ∧ c.toNat = 82) ∨ (kindOf c = some .L ∧ c.toNat = 76) ∨ (kindOf c = some .E ∧ c.toNat = 69) ∨
    (kindOf c = none ∧ c.toNat ≠ 67 ∧ c.toNat ≠ 83 ∧ c.toNat ≠ 82 ∧ c.toNat ≠ 76 ∧ c.toNat ≠ 69) := by
  unfold kindOf
  by_cases h1 : c.toNat = 67
  · simp [h1]
  by_cases h2 : c.toNat = 83
  · simp [h2]
  by_cases h3 : c.toNat = 82
  · simp [h3]
  by_cases h4 : c.toNat = 76
  · simp [h4]
  by_cases h5 : c.toNat = 69
  · simp [h5]
  simp [h1, h2, h3, h4, h5]
theorem int_beq {x : Nat} {y : Nat} (h : x ≠ y) : ((x : Int) == (y : Int)) = false := by simp; omega

/-- A letter's bits. -/
def Lt.bits : Lt → List Bool
  | .C => [false]
  | .S => [true, false, false]
  | .R => [true, false, true]
  | .L => [true, true, false]
  | .E => [true, true, true]
def codeL (c : UInt8) : List Bool := match kindOf c with
  | none => []
  | some k => k.bits
def codeV (c : UInt8) : Nat := ofBits (codeL c)

set_option maxRecDepth 100000 in
set_option maxHeartbeats 1000000 in
theorem code_calls {c : UInt8} {w : World} :
    Calls Try.prog 40 #[.int .u8 (c.toNat : Int)] w fun e w' => e = .returned (.tuple #[.int .u64 (codeV c : Int), .int .i64 ((codeL c).length : Int)]) ∧ w = w' := by
  have hk := kind_cases c
  have hc : codeL c = match kindOf c with | none => [] | some k => k.bits := rfl
  unfold codeV
  go_enter Try.func40, Try.ntmps40
  generalize codeL c = L at *
  generalize c.toNat = x at *
  rcases hk with ⟨hk, rfl⟩ | ⟨hk, rfl⟩ | ⟨hk, rfl⟩ | ⟨hk, rfl⟩ | ⟨hk, rfl⟩ | ⟨hk, h1, h2, h3, h4, h5⟩
  all_goals (rw [hk] at hc; subst hc)
  · go_wp2_with fail
    go_ret2
    exact ⟨rfl, rfl⟩
  · go_wp2_with fail
    go_ret2
    exact ⟨rfl, rfl⟩
  · go_wp2_with fail
    go_ret2
    exact ⟨rfl, rfl⟩
  · go_wp2_with fail
    go_ret2
    exact ⟨rfl, rfl⟩
  · go_wp2_with fail
    go_ret2
    exact ⟨rfl, rfl⟩
  · have e1 := int_beq h1
    have e2 := int_beq h2
    have e3 := int_beq h3
    have e4 := int_beq h4
    have e5 := int_beq h5
    go_wp2_with fail
    go_ret2
    exact ⟨rfl, rfl⟩

/-- A conversion's row: whatever world has it, its bytes can be read. -/
theorem Sep.conv {w : World} {L : List HP} (H : Sep w L) (e : TypeId) (l : List UInt8) :
    ∃ o, Sep (Lib.bytesWorld w e (str l)) (HP.obj w.heap.size o :: L) ∧ ∀ W L' cap, Sep W (HP.obj w.heap.size o :: L') → RdS W (.slice (some ⟨w.heap.size, 0, none⟩) l.length cap) l.length 1 (l.map lv) := by
  refine ⟨.cells (Lib.bytesCells w e (str l)) e ((Lib.bytesCells w e (str l)).size, (Lib.bytesCells w e (str l)).size + 1), ?_, ?_⟩
  · refine Sep.upd (L := []) (L' := [HP.obj w.heap.size _]) (R := L) H rfl rfl rfl (by rw [Lib.bytesWorld_size]; omega) fun S hS => ⟨fun k hk _ => Lib.bytesWorld_at_old _ _ _ _ hk, fun k => k = w.heap.size, ⟨_, fun _ => False, fun k => by simp, fun k _ h => h, ⟨fun k => Iff.rfl, Lib.bytesWorld_at_new _ _ _⟩, fun k h => h⟩, fun k hk => .inr (by omega)⟩
  · intro W L' cap h
    refine ⟨by simp, .inr ⟨_, _, rfl, fun j u hu => ?_⟩⟩
    have hg := h.obj_get
    have hj : j < l.length := by
      rcases Nat.lt_or_ge j l.length with h | h
      · exact h
      · rw [List.getElem?_eq_none (by simpa using h)] at hu; cases hu
    have hz : (⟨w.heap.size, 0, none⟩ : Addr).add j = ⟨w.heap.size, j, none⟩ := by rw [addr_add, Nat.zero_add]
    rw [hz]
    rw [List.getElem?_map, List.getElem?_eq_getElem hj] at hu
    simp only [Option.map_some, Option.some.injEq] at hu
    subst hu
    simp [World.cell?, hg, Lib.bytesCells, Array.getElem?_append, str, hj, lv]

#print axioms code_calls
end Go.Proofs.Ytmihlbecmagmbaa
