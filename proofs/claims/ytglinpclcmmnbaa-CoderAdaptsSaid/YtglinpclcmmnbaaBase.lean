/- What can be read in whatever world; slices that came in. -/
import Derived.Test.YtglinpclcmmnbaaSepStep
import Derived.OpenShut
namespace Go.Proofs.Ytglinpclcmmnbaa
open Go.RowKit

/-- A call gives a value, and a world, of which something holds. -/
def Gives (f : Value → World → Prop) (e : Ending) (w' : World) : Prop := ∃ v, e = .returned v ∧ f v w'

/-- Whatever world has the frame R, the slice can be read in it. -/
def Reads (R : List HP) (v : Value) (n size : Nat) (xs : List Value) : Prop := ∀ w, Sep w R → RdS w v n size xs
theorem Reads.row {e : TypeId} {size : Nat} {v : Value} {n : Nat} {xs : List Value} {R : List HP} : Reads (HP.row e size v n xs :: R) v n size xs := fun _ h => h.rd
theorem Reads.cons {v : Value} {n size : Nat} {xs : List Value} {R : List HP} {X : HP} (h : Reads R v n size xs) : Reads (X :: R) v n size xs := fun w hw => h w hw.tail
theorem Reads.perm {v : Value} {n size : Nat} {xs : List Value} {R R' : List HP} (h : Reads R v n size xs) (p : R'.Perm R) : Reads R' v n size xs := fun w hw => h w (hw.perm p)
theorem Reads.old {v : Value} {n size : Nat} {xs : List Value} {w0 : World} {R : List HP} (h : RdS w0 v n size xs) : Reads (HP.old w0.heap.size w0 :: R) v n size xs := fun w hw => by
  refine ⟨h.1, ?_⟩
  rcases h.2 with h | ⟨ad, cap, rfl, hh⟩
  · exact .inl h
  · exact .inr ⟨ad, cap, rfl, fun j u hu => (hw.below.cell (World.block_lt_of_cell? w0 _ (hh j u hu))).trans (hh j u hu)⟩

/-- A slice of integers that came in: it is nil; or it leads to a row of 'cap' cells, the numbers 'zs' (the first 'len' are its elements, the rest its spare room), each fitting its kind. -/
def IsRow (k : IntKind) (w : World) (a : Option Addr) (len cap : Nat) (zs : List Int) : Prop :=
  (a = none ∧ len = 0 ∧ cap = 0 ∧ zs = []) ∨
  ∃ x, a = some x ∧ len ≤ cap ∧ cap ≤ maxLen ∧ zs.length = cap ∧ (∀ i, i < zs.length → w.cell? (x.add i) = some (.int k (zs.getD i 0))) ∧ ∀ n ∈ zs, (Lit.int k n).wf = true

theorem IsRow.rd {k : IntKind} {w : World} {a : Option Addr} {len cap : Nat} {zs : List Int} (h : IsRow k w a len cap zs) : RdS w (.slice a len cap) len 1 ((zs.take len).map (Value.int k)) := by
  rcases h with ⟨rfl, rfl, rfl, rfl⟩ | ⟨x, rfl, hl, _, hz, hc, _⟩
  · exact ⟨rfl, .inl ⟨rfl, rfl⟩⟩
  · refine ⟨by simp; omega, .inr ⟨x, cap, rfl, fun j u hu => ?_⟩⟩
    rw [List.getElem?_map, List.getElem?_take] at hu
    split at hu
    · have hj : j < zs.length := by omega
      rw [List.getElem?_eq_getElem hj] at hu
      simp at hu
      subst hu
      rw [hc j hj]
      simp [List.getD, List.getElem?_eq_getElem hj]
    · simp at hu

theorem IsRow.wf {k : IntKind} {w : World} {a : Option Addr} {len cap : Nat} {zs : List Int} (h : IsRow k w a len cap zs) : ∀ n ∈ zs.take len, (Lit.int k n).wf = true := by
  intro n hn
  rcases h with ⟨rfl, rfl, rfl, rfl⟩ | ⟨x, rfl, hl, _, hz, hc, hw⟩
  · simp at hn
  · exact hw n (List.mem_of_mem_take hn)

theorem IsRow.len {k : IntKind} {w : World} {a : Option Addr} {len cap : Nat} {zs : List Int} (h : IsRow k w a len cap zs) : (zs.take len).length = len := by
  rcases h with ⟨rfl, rfl, rfl, rfl⟩ | ⟨x, rfl, hl, _, hz, _⟩
  · rfl
  · simp; omega

theorem wf_u8 {n : Int} (h : (Lit.int .u8 n).wf = true) : 0 ≤ n ∧ n ≤ 255 := by simp [Lit.wf, IntKind.min, IntKind.max, IntKind.signed, IntKind.bits] at h; omega
theorem wf_u16 {n : Int} (h : (Lit.int .u16 n).wf = true) : 0 ≤ n ∧ n ≤ 65535 := by simp [Lit.wf, IntKind.min, IntKind.max, IntKind.signed, IntKind.bits] at h; omega
theorem wf_u32 {n : Int} (h : (Lit.int .u32 n).wf = true) : 0 ≤ n ∧ n ≤ 4294967295 := by simp [Lit.wf, IntKind.min, IntKind.max, IntKind.signed, IntKind.bits] at h; omega
theorem wf_u64 {n : Int} (h : (Lit.int .u64 n).wf = true) : 0 ≤ n ∧ n ≤ 18446744073709551615 := by simp [Lit.wf, IntKind.min, IntKind.max, IntKind.signed, IntKind.bits] at h; omega
theorem wf_i64 {n : Int} (h : (Lit.int .i64 n).wf = true) : -9223372036854775808 ≤ n ∧ n ≤ 9223372036854775807 := by simp [Lit.wf, IntKind.min, IntKind.max, IntKind.signed, IntKind.bits] at h; omega

theorem Reads.append {v : Value} {n size : Nat} {xs : List Value} {R : List HP} (h : Reads R v n size xs) : ∀ S : List HP, Reads (S ++ R) v n size xs
  | [] => h
  | _ :: S => (h.append S).cons
theorem Sep.drop_left {w : World} {R : List HP} : ∀ {S : List HP}, Sep w (S ++ R) → Sep w R
  | [], h => h
  | _ :: _, h => Sep.drop_left h.tail

end Go.Proofs.Ytglinpclcmmnbaa
