/-
  No cell of these rows narrows 'for every input' (looked for: loops, veiled, ifaces, maps, wideKeys, modest, calm, conditions, laid).
  DERIVED. THE GIVEN ROWS OF THIS SEAT. 8 by the template 'for every input the law returns true; each argument reads behind the call as it read before'; 0 by the template 'total and deterministic' (their statements: YticeolbagfaofaaTotals.lean).
  GIVEN WITH THE SEED: the statements are not yours to turn. If you find one false, say at which input.
  Laid BY PROGRAM, IN A SANDBOX (cutbox-rows.mjs): the forced cells as the released guide's own fill.sh prints them over the translation d75443f8ccc9d7de… (all of the seat's roots in one cut). By AI agents, Wed Nov 11 2026. No macro, syntax, notation, axiom, sorry.
-/
import Derived.Test.YticeolbagfaofaaChecked
import GoSem.Claim
import GoSem.ClaimJoined
import GoSem.ClaimMapViews
import Derived.JoinedTies
import Derived.KernelRfl
namespace Go.Proofs.Yticeolbagfaofaa
/- THE CELL 'sum', in the pinned program and in every row, IS THE sha256 OF THE DUMP (.gsa) THAT YticeolbagfaofaaProg.lean LOADS. Nothing in Lean hashes anything: it is a label: what it is worth is what the hold of that sum in a sandbox is worth. -/
noncomputable def Try.pinned : Pinned := { name := "yticeolbagfaofaa", sum := "d75443f8ccc9d7de82c03a6dd68ea975257f4a27ad6aa49ee7f121e391b2b3ce", checked := Try.checked }
namespace Rows
def none {H : Type} : Left H := { results := [], args := [] }

/-- 'gypsumlaw25.OrderBits': WHATEVER THE INPUT: true; the input reads as it did. -/
def orderBitsSpec : ChangeSpec := { name := "orderBits", fn := fun _ => fun
  | [d] => { results := [.lit (.bool true)], args := [d] }
  | _ => none }
def orderBitsRow : OpenClaim := { program := "yticeolbagfaofaa", sum := "d75443f8ccc9d7de82c03a6dd68ea975257f4a27ad6aa49ee7f121e391b2b3ce", func := "gypsum/gypsumlaw25.OrderBits", spec := "orderBits", apart := false }
def OrderBitsSaid : Prop := orderBitsRow.holds Try.pinned (OpenSpec.ofChange orderBitsSpec)

/-- ITS FALSE NEIGHBOUR: 'it returns false'. Refute it at one input. -/
def orderBitsWrong : ChangeSpec := { name := "orderBits", fn := fun _ => fun
  | [d] => { results := [.lit (.bool false)], args := [d] }
  | _ => none }
def OrderBitsWrongFalsely : Prop := orderBitsRow.holds Try.pinned (OpenSpec.ofChange orderBitsWrong)

/-- 'gypsumlaw25.OrderBack': WHATEVER THE INPUT: true; the input reads as it did. -/
def orderBackSpec : ChangeSpec := { name := "orderBack", fn := fun _ => fun
  | [d1, d2] => { results := [.lit (.bool true)], args := [d1, d2] }
  | _ => none }
def orderBackRow : OpenClaim := { program := "yticeolbagfaofaa", sum := "d75443f8ccc9d7de82c03a6dd68ea975257f4a27ad6aa49ee7f121e391b2b3ce", func := "gypsum/gypsumlaw25.OrderBack", spec := "orderBack", apart := false }
def OrderBackSaid : Prop := orderBackRow.holds Try.pinned (OpenSpec.ofChange orderBackSpec)

/-- ITS FALSE NEIGHBOUR: 'it returns false'. Refute it at one input. -/
def orderBackWrong : ChangeSpec := { name := "orderBack", fn := fun _ => fun
  | [d1, d2] => { results := [.lit (.bool false)], args := [d1, d2] }
  | _ => none }
def OrderBackWrongFalsely : Prop := orderBackRow.holds Try.pinned (OpenSpec.ofChange orderBackWrong)

/-- 'gypsumlaw25.OrderCosts': WHATEVER THE INPUT: true; the input reads as it did. -/
def orderCostsSpec : ChangeSpec := { name := "orderCosts", fn := fun _ => fun
  | [d] => { results := [.lit (.bool true)], args := [d] }
  | _ => none }
def orderCostsRow : OpenClaim := { program := "yticeolbagfaofaa", sum := "d75443f8ccc9d7de82c03a6dd68ea975257f4a27ad6aa49ee7f121e391b2b3ce", func := "gypsum/gypsumlaw25.OrderCosts", spec := "orderCosts", apart := false }
def OrderCostsSaid : Prop := orderCostsRow.holds Try.pinned (OpenSpec.ofChange orderCostsSpec)

/-- ITS FALSE NEIGHBOUR: 'it returns false'. Refute it at one input. -/
def orderCostsWrong : ChangeSpec := { name := "orderCosts", fn := fun _ => fun
  | [d] => { results := [.lit (.bool false)], args := [d] }
  | _ => none }
def OrderCostsWrongFalsely : Prop := orderCostsRow.holds Try.pinned (OpenSpec.ofChange orderCostsWrong)

/-- 'gypsumlaw25.OrderReads': WHATEVER THE INPUT: true; the input reads as it did. -/
def orderReadsSpec : ChangeSpec := { name := "orderReads", fn := fun _ => fun
  | [d1, d2] => { results := [.lit (.bool true)], args := [d1, d2] }
  | _ => none }
def orderReadsRow : OpenClaim := { program := "yticeolbagfaofaa", sum := "d75443f8ccc9d7de82c03a6dd68ea975257f4a27ad6aa49ee7f121e391b2b3ce", func := "gypsum/gypsumlaw25.OrderReads", spec := "orderReads", apart := false }
def OrderReadsSaid : Prop := orderReadsRow.holds Try.pinned (OpenSpec.ofChange orderReadsSpec)

/-- ITS FALSE NEIGHBOUR: 'it returns false'. Refute it at one input. -/
def orderReadsWrong : ChangeSpec := { name := "orderReads", fn := fun _ => fun
  | [d1, d2] => { results := [.lit (.bool false)], args := [d1, d2] }
  | _ => none }
def OrderReadsWrongFalsely : Prop := orderReadsRow.holds Try.pinned (OpenSpec.ofChange orderReadsWrong)

/-- 'gypsumlaw25.OrderGroups': WHATEVER THE INPUT: true; the input reads as it did. -/
def orderGroupsSpec : ChangeSpec := { name := "orderGroups", fn := fun _ => fun
  | [d1, d2, d3] => { results := [.lit (.bool true)], args := [d1, d2, d3] }
  | _ => none }
def orderGroupsRow : OpenClaim := { program := "yticeolbagfaofaa", sum := "d75443f8ccc9d7de82c03a6dd68ea975257f4a27ad6aa49ee7f121e391b2b3ce", func := "gypsum/gypsumlaw25.OrderGroups", spec := "orderGroups", apart := false }
def OrderGroupsSaid : Prop := orderGroupsRow.holds Try.pinned (OpenSpec.ofChange orderGroupsSpec)

/-- ITS FALSE NEIGHBOUR: 'it returns false'. Refute it at one input. -/
def orderGroupsWrong : ChangeSpec := { name := "orderGroups", fn := fun _ => fun
  | [d1, d2, d3] => { results := [.lit (.bool false)], args := [d1, d2, d3] }
  | _ => none }
def OrderGroupsWrongFalsely : Prop := orderGroupsRow.holds Try.pinned (OpenSpec.ofChange orderGroupsWrong)

/-- 'gypsumlaw25.OrderNone': WHATEVER THE INPUT: true; the input reads as it did. -/
def orderNoneSpec : ChangeSpec := { name := "orderNone", fn := fun _ => fun
  | [d1, d2] => { results := [.lit (.bool true)], args := [d1, d2] }
  | _ => none }
def orderNoneRow : OpenClaim := { program := "yticeolbagfaofaa", sum := "d75443f8ccc9d7de82c03a6dd68ea975257f4a27ad6aa49ee7f121e391b2b3ce", func := "gypsum/gypsumlaw25.OrderNone", spec := "orderNone", apart := false }
def OrderNoneSaid : Prop := orderNoneRow.holds Try.pinned (OpenSpec.ofChange orderNoneSpec)

/-- ITS FALSE NEIGHBOUR: 'it returns false'. Refute it at one input. -/
def orderNoneWrong : ChangeSpec := { name := "orderNone", fn := fun _ => fun
  | [d1, d2] => { results := [.lit (.bool false)], args := [d1, d2] }
  | _ => none }
def OrderNoneWrongFalsely : Prop := orderNoneRow.holds Try.pinned (OpenSpec.ofChange orderNoneWrong)

/-- 'gypsumlaw25.OrderRight': WHATEVER THE INPUT: true; the input reads as it did. -/
def orderRightSpec : ChangeSpec := { name := "orderRight", fn := fun _ => fun
  | [d] => { results := [.lit (.bool true)], args := [d] }
  | _ => none }
def orderRightRow : OpenClaim := { program := "yticeolbagfaofaa", sum := "d75443f8ccc9d7de82c03a6dd68ea975257f4a27ad6aa49ee7f121e391b2b3ce", func := "gypsum/gypsumlaw25.OrderRight", spec := "orderRight", apart := false }
def OrderRightSaid : Prop := orderRightRow.holds Try.pinned (OpenSpec.ofChange orderRightSpec)

/-- ITS FALSE NEIGHBOUR: 'it returns false'. Refute it at one input. -/
def orderRightWrong : ChangeSpec := { name := "orderRight", fn := fun _ => fun
  | [d] => { results := [.lit (.bool false)], args := [d] }
  | _ => none }
def OrderRightWrongFalsely : Prop := orderRightRow.holds Try.pinned (OpenSpec.ofChange orderRightWrong)

/-- 'gypsumlaw25.OrderTurns': WHATEVER THE INPUT: true; the input reads as it did. -/
def orderTurnsSpec : ChangeSpec := { name := "orderTurns", fn := fun _ => fun
  | [d] => { results := [.lit (.bool true)], args := [d] }
  | _ => none }
def orderTurnsRow : OpenClaim := { program := "yticeolbagfaofaa", sum := "d75443f8ccc9d7de82c03a6dd68ea975257f4a27ad6aa49ee7f121e391b2b3ce", func := "gypsum/gypsumlaw25.OrderTurns", spec := "orderTurns", apart := false }
def OrderTurnsSaid : Prop := orderTurnsRow.holds Try.pinned (OpenSpec.ofChange orderTurnsSpec)

/-- ITS FALSE NEIGHBOUR: 'it returns false'. Refute it at one input. -/
def orderTurnsWrong : ChangeSpec := { name := "orderTurns", fn := fun _ => fun
  | [d] => { results := [.lit (.bool false)], args := [d] }
  | _ => none }
def OrderTurnsWrongFalsely : Prop := orderTurnsRow.holds Try.pinned (OpenSpec.ofChange orderTurnsWrong)

/- THE SECOND FORM. 'bulk': how many values and letters a reading holds, each counted each time it is reached (what is shared counts as often as it is met; a slice's spare places count too). A statement '..UptoSaid' is the law's where the arguments, and the package variables that the reading takes, are together of bulk at most 1048576: NARROWER than '..Said'. Prove '..Said' where nothing that the law and all that it calls make is longer than what came in: it says more and counts as full. Else prove '..UptoSaid'. A law counts once. -/
mutual
def uptoBulk {H : Type} : DataW H → Nat
  | .lit (.string bytes) => bytes.length + 1
  | .lit _ => 1
  | .nil => 1
  | .ptr d => uptoBulk d + 1
  | .slice elems spare => uptoBulkAll elems + uptoBulkAll spare + 1
  | .agg parts => uptoBulkAll parts + 1
  | .iface _ d => uptoBulk d + 1
  | .map entries => uptoBulkEntries entries + 1
  | .held _ => 1
def uptoBulkAll {H : Type} : List (DataW H) → Nat
  | [] => 0
  | d :: r => uptoBulk d + uptoBulkAll r
def uptoBulkEntries {H : Type} : List (Lit × DataW H) → Nat
  | [] => 0
  | x :: r => uptoBulkEntry x + uptoBulkEntries r
def uptoBulkEntry {H : Type} : Lit × DataW H → Nat
  | (.string bytes, d) => bytes.length + uptoBulk d + 1
  | (_, d) => uptoBulk d + 1
 end
def uptoSmall : (H : Type) → List (DataW H) → Bool := fun _ ds => decide (uptoBulkAll ds ≤ 1048576)
def OpenSpec.upto (s : _root_.Go.ChangeSpec) : _root_.Go.OpenSpec := { _root_.Go.OpenSpec.ofChange s with cond := some uptoSmall }

/-- 'gypsumlaw25.OrderBits', WHERE WHAT IT READS IS OF BULK AT MOST 1048576: true; the input reads as it did. -/
def orderBitsUptoRow : OpenClaim := { program := "yticeolbagfaofaa", sum := "d75443f8ccc9d7de82c03a6dd68ea975257f4a27ad6aa49ee7f121e391b2b3ce", func := "gypsum/gypsumlaw25.OrderBits", spec := "orderBits", apart := false, narrowed := true }
def OrderBitsUptoSaid : Prop := orderBitsUptoRow.holds Try.pinned (OpenSpec.upto orderBitsSpec)

/-- 'gypsumlaw25.OrderBack', WHERE WHAT IT READS IS OF BULK AT MOST 1048576: true; the input reads as it did. -/
def orderBackUptoRow : OpenClaim := { program := "yticeolbagfaofaa", sum := "d75443f8ccc9d7de82c03a6dd68ea975257f4a27ad6aa49ee7f121e391b2b3ce", func := "gypsum/gypsumlaw25.OrderBack", spec := "orderBack", apart := false, narrowed := true }
def OrderBackUptoSaid : Prop := orderBackUptoRow.holds Try.pinned (OpenSpec.upto orderBackSpec)

/-- 'gypsumlaw25.OrderCosts', WHERE WHAT IT READS IS OF BULK AT MOST 1048576: true; the input reads as it did. -/
def orderCostsUptoRow : OpenClaim := { program := "yticeolbagfaofaa", sum := "d75443f8ccc9d7de82c03a6dd68ea975257f4a27ad6aa49ee7f121e391b2b3ce", func := "gypsum/gypsumlaw25.OrderCosts", spec := "orderCosts", apart := false, narrowed := true }
def OrderCostsUptoSaid : Prop := orderCostsUptoRow.holds Try.pinned (OpenSpec.upto orderCostsSpec)

/-- 'gypsumlaw25.OrderReads', WHERE WHAT IT READS IS OF BULK AT MOST 1048576: true; the input reads as it did. -/
def orderReadsUptoRow : OpenClaim := { program := "yticeolbagfaofaa", sum := "d75443f8ccc9d7de82c03a6dd68ea975257f4a27ad6aa49ee7f121e391b2b3ce", func := "gypsum/gypsumlaw25.OrderReads", spec := "orderReads", apart := false, narrowed := true }
def OrderReadsUptoSaid : Prop := orderReadsUptoRow.holds Try.pinned (OpenSpec.upto orderReadsSpec)

/-- 'gypsumlaw25.OrderGroups', WHERE WHAT IT READS IS OF BULK AT MOST 1048576: true; the input reads as it did. -/
def orderGroupsUptoRow : OpenClaim := { program := "yticeolbagfaofaa", sum := "d75443f8ccc9d7de82c03a6dd68ea975257f4a27ad6aa49ee7f121e391b2b3ce", func := "gypsum/gypsumlaw25.OrderGroups", spec := "orderGroups", apart := false, narrowed := true }
def OrderGroupsUptoSaid : Prop := orderGroupsUptoRow.holds Try.pinned (OpenSpec.upto orderGroupsSpec)

/-- 'gypsumlaw25.OrderNone', WHERE WHAT IT READS IS OF BULK AT MOST 1048576: true; the input reads as it did. -/
def orderNoneUptoRow : OpenClaim := { program := "yticeolbagfaofaa", sum := "d75443f8ccc9d7de82c03a6dd68ea975257f4a27ad6aa49ee7f121e391b2b3ce", func := "gypsum/gypsumlaw25.OrderNone", spec := "orderNone", apart := false, narrowed := true }
def OrderNoneUptoSaid : Prop := orderNoneUptoRow.holds Try.pinned (OpenSpec.upto orderNoneSpec)

/-- 'gypsumlaw25.OrderRight', WHERE WHAT IT READS IS OF BULK AT MOST 1048576: true; the input reads as it did. -/
def orderRightUptoRow : OpenClaim := { program := "yticeolbagfaofaa", sum := "d75443f8ccc9d7de82c03a6dd68ea975257f4a27ad6aa49ee7f121e391b2b3ce", func := "gypsum/gypsumlaw25.OrderRight", spec := "orderRight", apart := false, narrowed := true }
def OrderRightUptoSaid : Prop := orderRightUptoRow.holds Try.pinned (OpenSpec.upto orderRightSpec)

/-- 'gypsumlaw25.OrderTurns', WHERE WHAT IT READS IS OF BULK AT MOST 1048576: true; the input reads as it did. -/
def orderTurnsUptoRow : OpenClaim := { program := "yticeolbagfaofaa", sum := "d75443f8ccc9d7de82c03a6dd68ea975257f4a27ad6aa49ee7f121e391b2b3ce", func := "gypsum/gypsumlaw25.OrderTurns", spec := "orderTurns", apart := false, narrowed := true }
def OrderTurnsUptoSaid : Prop := orderTurnsUptoRow.holds Try.pinned (OpenSpec.upto orderTurnsSpec)

end Rows
end Go.Proofs.Yticeolbagfaofaa
