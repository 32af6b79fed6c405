/-
  No cell of these rows narrows 'for every input' (looked for: loops, veiled, ifaces, maps, wideKeys, modest, calm, conditions, laid).
  DERIVED. THE GIVEN ROWS OF THIS SEAT. 15 by the template 'for every input the law returns true; each argument reads behind the call as it read before'; 0 by the template 'total and deterministic' (their statements: YtbhpcpcpccmacaaTotals.lean).
  GIVEN WITH THE SEED: the statements are not yours to turn. If you find one false, say at which input.
  Laid BY PROGRAM, IN A SANDBOX (cutbox-rows.mjs): the forced cells as the released guide's own fill.sh prints them over the translation 70366a7dcd7977ab… (all of the seat's roots in one cut). By AI agents, Wed Nov 11 2026. No macro, syntax, notation, axiom, sorry.
-/
import Derived.Test.YtbhpcpcpccmacaaChecked
import GoSem.Claim
import GoSem.ClaimJoined
import GoSem.ClaimMapViews
import Derived.JoinedTies
import Derived.KernelRfl
namespace Go.Proofs.Ytbhpcpcpccmacaa
/- THE CELL 'sum', in the pinned program and in every row, IS THE sha256 OF THE DUMP (.gsa) THAT YtbhpcpcpccmacaaProg.lean LOADS. Nothing in Lean hashes anything: it is a label: what it is worth is what the hold of that sum in a sandbox is worth. -/
noncomputable def Try.pinned : Pinned := { name := "ytbhpcpcpccmacaa", sum := "70366a7dcd7977abad36144c367fe297a103391a35b2eb411791d6447805db24", checked := Try.checked }
namespace Rows
def none {H : Type} : Left H := { results := [], args := [] }

/-- 'gypsumlaw29.ResidualNear': WHATEVER THE INPUT: true; the input reads as it did. -/
def residualNearSpec : ChangeSpec := { name := "residualNear", fn := fun _ => fun
  | [d1, d2, d3, d4] => { results := [.lit (.bool true)], args := [d1, d2, d3, d4] }
  | _ => none }
def residualNearRow : OpenClaim := { program := "ytbhpcpcpccmacaa", sum := "70366a7dcd7977abad36144c367fe297a103391a35b2eb411791d6447805db24", func := "gypsum/gypsumlaw29.ResidualNear", spec := "residualNear", unfollowed := true, recurses := true, apart := false }
def ResidualNearSaid : Prop := residualNearRow.holds Try.pinned (OpenSpec.ofChange residualNearSpec)

/-- ITS FALSE NEIGHBOUR: 'it returns false'. Refute it at one input. -/
def residualNearWrong : ChangeSpec := { name := "residualNear", fn := fun _ => fun
  | [d1, d2, d3, d4] => { results := [.lit (.bool false)], args := [d1, d2, d3, d4] }
  | _ => none }
def ResidualNearWrongFalsely : Prop := residualNearRow.holds Try.pinned (OpenSpec.ofChange residualNearWrong)

/-- 'gypsumlaw29.ResidualNone': WHATEVER THE INPUT: true; the input reads as it did. -/
def residualNoneSpec : ChangeSpec := { name := "residualNone", fn := fun _ => fun
  | [d] => { results := [.lit (.bool true)], args := [d] }
  | _ => none }
def residualNoneRow : OpenClaim := { program := "ytbhpcpcpccmacaa", sum := "70366a7dcd7977abad36144c367fe297a103391a35b2eb411791d6447805db24", func := "gypsum/gypsumlaw29.ResidualNone", spec := "residualNone", unfollowed := true, recurses := true, apart := false }
def ResidualNoneSaid : Prop := residualNoneRow.holds Try.pinned (OpenSpec.ofChange residualNoneSpec)

/-- ITS FALSE NEIGHBOUR: 'it returns false'. Refute it at one input. -/
def residualNoneWrong : ChangeSpec := { name := "residualNone", fn := fun _ => fun
  | [d] => { results := [.lit (.bool false)], args := [d] }
  | _ => none }
def ResidualNoneWrongFalsely : Prop := residualNoneRow.holds Try.pinned (OpenSpec.ofChange residualNoneWrong)

/-- 'gypsumlaw05.ModelEncodes': WHATEVER THE INPUT: true; the input reads as it did. -/
def modelEncodesSpec : ChangeSpec := { name := "modelEncodes", fn := fun _ => fun
  | [d1, d2, d3, d4] => { results := [.lit (.bool true)], args := [d1, d2, d3, d4] }
  | _ => none }
def modelEncodesRow : OpenClaim := { program := "ytbhpcpcpccmacaa", sum := "70366a7dcd7977abad36144c367fe297a103391a35b2eb411791d6447805db24", func := "gypsum/gypsumlaw05.ModelEncodes", spec := "modelEncodes", unfollowed := true, recurses := true, apart := false }
def ModelEncodesSaid : Prop := modelEncodesRow.holds Try.pinned (OpenSpec.ofChange modelEncodesSpec)

/-- ITS FALSE NEIGHBOUR: 'it returns false'. Refute it at one input. -/
def modelEncodesWrong : ChangeSpec := { name := "modelEncodes", fn := fun _ => fun
  | [d1, d2, d3, d4] => { results := [.lit (.bool false)], args := [d1, d2, d3, d4] }
  | _ => none }
def ModelEncodesWrongFalsely : Prop := modelEncodesRow.holds Try.pinned (OpenSpec.ofChange modelEncodesWrong)

/-- 'gypsumlaw05.ModelBack': WHATEVER THE INPUT: true; the input reads as it did. -/
def modelBackSpec : ChangeSpec := { name := "modelBack", fn := fun _ => fun
  | [d1, d2, d3, d4] => { results := [.lit (.bool true)], args := [d1, d2, d3, d4] }
  | _ => none }
def modelBackRow : OpenClaim := { program := "ytbhpcpcpccmacaa", sum := "70366a7dcd7977abad36144c367fe297a103391a35b2eb411791d6447805db24", func := "gypsum/gypsumlaw05.ModelBack", spec := "modelBack", unfollowed := true, recurses := true, apart := false }
def ModelBackSaid : Prop := modelBackRow.holds Try.pinned (OpenSpec.ofChange modelBackSpec)

/-- ITS FALSE NEIGHBOUR: 'it returns false'. Refute it at one input. -/
def modelBackWrong : ChangeSpec := { name := "modelBack", fn := fun _ => fun
  | [d1, d2, d3, d4] => { results := [.lit (.bool false)], args := [d1, d2, d3, d4] }
  | _ => none }
def ModelBackWrongFalsely : Prop := modelBackRow.holds Try.pinned (OpenSpec.ofChange modelBackWrong)

/-- 'gypsumlaw05.ModelOne': WHATEVER THE INPUT: true; the input reads as it did. -/
def modelOneSpec : ChangeSpec := { name := "modelOne", fn := fun _ => fun
  | [d1, d2, d3, d4] => { results := [.lit (.bool true)], args := [d1, d2, d3, d4] }
  | _ => none }
def modelOneRow : OpenClaim := { program := "ytbhpcpcpccmacaa", sum := "70366a7dcd7977abad36144c367fe297a103391a35b2eb411791d6447805db24", func := "gypsum/gypsumlaw05.ModelOne", spec := "modelOne", unfollowed := true, recurses := true, apart := false }
def ModelOneSaid : Prop := modelOneRow.holds Try.pinned (OpenSpec.ofChange modelOneSpec)

/-- ITS FALSE NEIGHBOUR: 'it returns false'. Refute it at one input. -/
def modelOneWrong : ChangeSpec := { name := "modelOne", fn := fun _ => fun
  | [d1, d2, d3, d4] => { results := [.lit (.bool false)], args := [d1, d2, d3, d4] }
  | _ => none }
def ModelOneWrongFalsely : Prop := modelOneRow.holds Try.pinned (OpenSpec.ofChange modelOneWrong)

/-- 'gypsumlaw05.ModelPlain': WHATEVER THE INPUT: true; the input reads as it did. -/
def modelPlainSpec : ChangeSpec := { name := "modelPlain", fn := fun _ => fun
  | [d1, d2, d3, d4] => { results := [.lit (.bool true)], args := [d1, d2, d3, d4] }
  | _ => none }
def modelPlainRow : OpenClaim := { program := "ytbhpcpcpccmacaa", sum := "70366a7dcd7977abad36144c367fe297a103391a35b2eb411791d6447805db24", func := "gypsum/gypsumlaw05.ModelPlain", spec := "modelPlain", unfollowed := true, recurses := true, apart := false }
def ModelPlainSaid : Prop := modelPlainRow.holds Try.pinned (OpenSpec.ofChange modelPlainSpec)

/-- ITS FALSE NEIGHBOUR: 'it returns false'. Refute it at one input. -/
def modelPlainWrong : ChangeSpec := { name := "modelPlain", fn := fun _ => fun
  | [d1, d2, d3, d4] => { results := [.lit (.bool false)], args := [d1, d2, d3, d4] }
  | _ => none }
def ModelPlainWrongFalsely : Prop := modelPlainRow.holds Try.pinned (OpenSpec.ofChange modelPlainWrong)

/-- 'gypsumlaw05.ModelSame': WHATEVER THE INPUT: true; the input reads as it did. -/
def modelSameSpec : ChangeSpec := { name := "modelSame", fn := fun _ => fun
  | [d1, d2, d3] => { results := [.lit (.bool true)], args := [d1, d2, d3] }
  | _ => none }
def modelSameRow : OpenClaim := { program := "ytbhpcpcpccmacaa", sum := "70366a7dcd7977abad36144c367fe297a103391a35b2eb411791d6447805db24", func := "gypsum/gypsumlaw05.ModelSame", spec := "modelSame", unfollowed := true, recurses := true, apart := false }
def ModelSameSaid : Prop := modelSameRow.holds Try.pinned (OpenSpec.ofChange modelSameSpec)

/-- ITS FALSE NEIGHBOUR: 'it returns false'. Refute it at one input. -/
def modelSameWrong : ChangeSpec := { name := "modelSame", fn := fun _ => fun
  | [d1, d2, d3] => { results := [.lit (.bool false)], args := [d1, d2, d3] }
  | _ => none }
def ModelSameWrongFalsely : Prop := modelSameRow.holds Try.pinned (OpenSpec.ofChange modelSameWrong)

/-- 'gypsumlaw05.ModelContexts': WHATEVER THE INPUT: true; the input reads as it did. -/
def modelContextsSpec : ChangeSpec := { name := "modelContexts", fn := fun _ => fun
  | [d1, d2, d3, d4] => { results := [.lit (.bool true)], args := [d1, d2, d3, d4] }
  | _ => none }
def modelContextsRow : OpenClaim := { program := "ytbhpcpcpccmacaa", sum := "70366a7dcd7977abad36144c367fe297a103391a35b2eb411791d6447805db24", func := "gypsum/gypsumlaw05.ModelContexts", spec := "modelContexts", unfollowed := true, recurses := true, apart := false }
def ModelContextsSaid : Prop := modelContextsRow.holds Try.pinned (OpenSpec.ofChange modelContextsSpec)

/-- ITS FALSE NEIGHBOUR: 'it returns false'. Refute it at one input. -/
def modelContextsWrong : ChangeSpec := { name := "modelContexts", fn := fun _ => fun
  | [d1, d2, d3, d4] => { results := [.lit (.bool false)], args := [d1, d2, d3, d4] }
  | _ => none }
def ModelContextsWrongFalsely : Prop := modelContextsRow.holds Try.pinned (OpenSpec.ofChange modelContextsWrong)

/-- 'gypsumlaw05.ModelNone': WHATEVER THE INPUT: true; the input reads as it did. -/
def modelNoneSpec : ChangeSpec := { name := "modelNone", fn := fun _ => fun
  | [d1, d2] => { results := [.lit (.bool true)], args := [d1, d2] }
  | _ => none }
def modelNoneRow : OpenClaim := { program := "ytbhpcpcpccmacaa", sum := "70366a7dcd7977abad36144c367fe297a103391a35b2eb411791d6447805db24", func := "gypsum/gypsumlaw05.ModelNone", spec := "modelNone", unfollowed := true, recurses := true, apart := false }
def ModelNoneSaid : Prop := modelNoneRow.holds Try.pinned (OpenSpec.ofChange modelNoneSpec)

/-- ITS FALSE NEIGHBOUR: 'it returns false'. Refute it at one input. -/
def modelNoneWrong : ChangeSpec := { name := "modelNone", fn := fun _ => fun
  | [d1, d2] => { results := [.lit (.bool false)], args := [d1, d2] }
  | _ => none }
def ModelNoneWrongFalsely : Prop := modelNoneRow.holds Try.pinned (OpenSpec.ofChange modelNoneWrong)

/-- 'gypsumlaw29.ResidualTells': WHATEVER THE INPUT: true; the input reads as it did. -/
def residualTellsSpec : ChangeSpec := { name := "residualTells", fn := fun _ => fun
  | [d1, d2, d3] => { results := [.lit (.bool true)], args := [d1, d2, d3] }
  | _ => none }
def residualTellsRow : OpenClaim := { program := "ytbhpcpcpccmacaa", sum := "70366a7dcd7977abad36144c367fe297a103391a35b2eb411791d6447805db24", func := "gypsum/gypsumlaw29.ResidualTells", spec := "residualTells", unfollowed := true, recurses := true, apart := false }
def ResidualTellsSaid : Prop := residualTellsRow.holds Try.pinned (OpenSpec.ofChange residualTellsSpec)

/-- ITS FALSE NEIGHBOUR: 'it returns false'. Refute it at one input. -/
def residualTellsWrong : ChangeSpec := { name := "residualTells", fn := fun _ => fun
  | [d1, d2, d3] => { results := [.lit (.bool false)], args := [d1, d2, d3] }
  | _ => none }
def ResidualTellsWrongFalsely : Prop := residualTellsRow.holds Try.pinned (OpenSpec.ofChange residualTellsWrong)

/-- 'gypsumlaw29.ResidualBack': WHATEVER THE INPUT: true; the input reads as it did. -/
def residualBackSpec : ChangeSpec := { name := "residualBack", fn := fun _ => fun
  | [d1, d2, d3] => { results := [.lit (.bool true)], args := [d1, d2, d3] }
  | _ => none }
def residualBackRow : OpenClaim := { program := "ytbhpcpcpccmacaa", sum := "70366a7dcd7977abad36144c367fe297a103391a35b2eb411791d6447805db24", func := "gypsum/gypsumlaw29.ResidualBack", spec := "residualBack", unfollowed := true, recurses := true, apart := false }
def ResidualBackSaid : Prop := residualBackRow.holds Try.pinned (OpenSpec.ofChange residualBackSpec)

/-- ITS FALSE NEIGHBOUR: 'it returns false'. Refute it at one input. -/
def residualBackWrong : ChangeSpec := { name := "residualBack", fn := fun _ => fun
  | [d1, d2, d3] => { results := [.lit (.bool false)], args := [d1, d2, d3] }
  | _ => none }
def ResidualBackWrongFalsely : Prop := residualBackRow.holds Try.pinned (OpenSpec.ofChange residualBackWrong)

/-- 'gypsumlaw29.ResidualEncodes': WHATEVER THE INPUT: true; the input reads as it did. -/
def residualEncodesSpec : ChangeSpec := { name := "residualEncodes", fn := fun _ => fun
  | [d] => { results := [.lit (.bool true)], args := [d] }
  | _ => none }
def residualEncodesRow : OpenClaim := { program := "ytbhpcpcpccmacaa", sum := "70366a7dcd7977abad36144c367fe297a103391a35b2eb411791d6447805db24", func := "gypsum/gypsumlaw29.ResidualEncodes", spec := "residualEncodes", unfollowed := true, recurses := true, apart := false }
def ResidualEncodesSaid : Prop := residualEncodesRow.holds Try.pinned (OpenSpec.ofChange residualEncodesSpec)

/-- ITS FALSE NEIGHBOUR: 'it returns false'. Refute it at one input. -/
def residualEncodesWrong : ChangeSpec := { name := "residualEncodes", fn := fun _ => fun
  | [d] => { results := [.lit (.bool false)], args := [d] }
  | _ => none }
def ResidualEncodesWrongFalsely : Prop := residualEncodesRow.holds Try.pinned (OpenSpec.ofChange residualEncodesWrong)

/-- 'gypsumlaw29.ResidualRows': WHATEVER THE INPUT: true; the input reads as it did. -/
def residualRowsSpec : ChangeSpec := { name := "residualRows", fn := fun _ => fun
  | [d] => { results := [.lit (.bool true)], args := [d] }
  | _ => none }
def residualRowsRow : OpenClaim := { program := "ytbhpcpcpccmacaa", sum := "70366a7dcd7977abad36144c367fe297a103391a35b2eb411791d6447805db24", func := "gypsum/gypsumlaw29.ResidualRows", spec := "residualRows", unfollowed := true, recurses := true, apart := false }
def ResidualRowsSaid : Prop := residualRowsRow.holds Try.pinned (OpenSpec.ofChange residualRowsSpec)

/-- ITS FALSE NEIGHBOUR: 'it returns false'. Refute it at one input. -/
def residualRowsWrong : ChangeSpec := { name := "residualRows", fn := fun _ => fun
  | [d] => { results := [.lit (.bool false)], args := [d] }
  | _ => none }
def ResidualRowsWrongFalsely : Prop := residualRowsRow.holds Try.pinned (OpenSpec.ofChange residualRowsWrong)

/-- 'gypsumlaw29.ResidualOne': WHATEVER THE INPUT: true; the input reads as it did. -/
def residualOneSpec : ChangeSpec := { name := "residualOne", fn := fun _ => fun
  | [d1, d2] => { results := [.lit (.bool true)], args := [d1, d2] }
  | _ => none }
def residualOneRow : OpenClaim := { program := "ytbhpcpcpccmacaa", sum := "70366a7dcd7977abad36144c367fe297a103391a35b2eb411791d6447805db24", func := "gypsum/gypsumlaw29.ResidualOne", spec := "residualOne", unfollowed := true, recurses := true, apart := false }
def ResidualOneSaid : Prop := residualOneRow.holds Try.pinned (OpenSpec.ofChange residualOneSpec)

/-- ITS FALSE NEIGHBOUR: 'it returns false'. Refute it at one input. -/
def residualOneWrong : ChangeSpec := { name := "residualOne", fn := fun _ => fun
  | [d1, d2] => { results := [.lit (.bool false)], args := [d1, d2] }
  | _ => none }
def ResidualOneWrongFalsely : Prop := residualOneRow.holds Try.pinned (OpenSpec.ofChange residualOneWrong)

/-- 'gypsumlaw29.ResidualCost': WHATEVER THE INPUT: true; the input reads as it did. -/
def residualCostSpec : ChangeSpec := { name := "residualCost", fn := fun _ => fun
  | [d] => { results := [.lit (.bool true)], args := [d] }
  | _ => none }
def residualCostRow : OpenClaim := { program := "ytbhpcpcpccmacaa", sum := "70366a7dcd7977abad36144c367fe297a103391a35b2eb411791d6447805db24", func := "gypsum/gypsumlaw29.ResidualCost", spec := "residualCost", unfollowed := true, recurses := true, apart := false }
def ResidualCostSaid : Prop := residualCostRow.holds Try.pinned (OpenSpec.ofChange residualCostSpec)

/-- ITS FALSE NEIGHBOUR: 'it returns false'. Refute it at one input. -/
def residualCostWrong : ChangeSpec := { name := "residualCost", fn := fun _ => fun
  | [d] => { results := [.lit (.bool false)], args := [d] }
  | _ => none }
def ResidualCostWrongFalsely : Prop := residualCostRow.holds Try.pinned (OpenSpec.ofChange residualCostWrong)

/- THE SECOND FORM. 'bulk': how many values and letters a reading holds, each counted each time it is reached (what is shared counts as often as it is met; a slice's spare places count too). A statement '..UptoSaid' is the law's where the arguments, and the package variables that the reading takes, are together of bulk at most 1048576: NARROWER than '..Said'. Prove '..Said' where nothing that the law and all that it calls make is longer than what came in: it says more and counts as full. Else prove '..UptoSaid'. A law counts once. -/
mutual
def uptoBulk {H : Type} : DataW H → Nat
  | .lit (.string bytes) => bytes.length + 1
  | .lit _ => 1
  | .nil => 1
  | .ptr d => uptoBulk d + 1
  | .slice elems spare => uptoBulkAll elems + uptoBulkAll spare + 1
  | .agg parts => uptoBulkAll parts + 1
  | .iface _ d => uptoBulk d + 1
  | .map entries => uptoBulkEntries entries + 1
  | .held _ => 1
def uptoBulkAll {H : Type} : List (DataW H) → Nat
  | [] => 0
  | d :: r => uptoBulk d + uptoBulkAll r
def uptoBulkEntries {H : Type} : List (Lit × DataW H) → Nat
  | [] => 0
  | x :: r => uptoBulkEntry x + uptoBulkEntries r
def uptoBulkEntry {H : Type} : Lit × DataW H → Nat
  | (.string bytes, d) => bytes.length + uptoBulk d + 1
  | (_, d) => uptoBulk d + 1
 end
def uptoSmall : (H : Type) → List (DataW H) → Bool := fun _ ds => decide (uptoBulkAll ds ≤ 1048576)
def OpenSpec.upto (s : _root_.Go.ChangeSpec) : _root_.Go.OpenSpec := { _root_.Go.OpenSpec.ofChange s with cond := some uptoSmall }

/-- 'gypsumlaw29.ResidualNear', WHERE WHAT IT READS IS OF BULK AT MOST 1048576: true; the input reads as it did. -/
def residualNearUptoRow : OpenClaim := { program := "ytbhpcpcpccmacaa", sum := "70366a7dcd7977abad36144c367fe297a103391a35b2eb411791d6447805db24", func := "gypsum/gypsumlaw29.ResidualNear", spec := "residualNear", unfollowed := true, recurses := true, apart := false, narrowed := true }
def ResidualNearUptoSaid : Prop := residualNearUptoRow.holds Try.pinned (OpenSpec.upto residualNearSpec)

/-- 'gypsumlaw29.ResidualNone', WHERE WHAT IT READS IS OF BULK AT MOST 1048576: true; the input reads as it did. -/
def residualNoneUptoRow : OpenClaim := { program := "ytbhpcpcpccmacaa", sum := "70366a7dcd7977abad36144c367fe297a103391a35b2eb411791d6447805db24", func := "gypsum/gypsumlaw29.ResidualNone", spec := "residualNone", unfollowed := true, recurses := true, apart := false, narrowed := true }
def ResidualNoneUptoSaid : Prop := residualNoneUptoRow.holds Try.pinned (OpenSpec.upto residualNoneSpec)

/-- 'gypsumlaw05.ModelEncodes', WHERE WHAT IT READS IS OF BULK AT MOST 1048576: true; the input reads as it did. -/
def modelEncodesUptoRow : OpenClaim := { program := "ytbhpcpcpccmacaa", sum := "70366a7dcd7977abad36144c367fe297a103391a35b2eb411791d6447805db24", func := "gypsum/gypsumlaw05.ModelEncodes", spec := "modelEncodes", unfollowed := true, recurses := true, apart := false, narrowed := true }
def ModelEncodesUptoSaid : Prop := modelEncodesUptoRow.holds Try.pinned (OpenSpec.upto modelEncodesSpec)

/-- 'gypsumlaw05.ModelBack', WHERE WHAT IT READS IS OF BULK AT MOST 1048576: true; the input reads as it did. -/
def modelBackUptoRow : OpenClaim := { program := "ytbhpcpcpccmacaa", sum := "70366a7dcd7977abad36144c367fe297a103391a35b2eb411791d6447805db24", func := "gypsum/gypsumlaw05.ModelBack", spec := "modelBack", unfollowed := true, recurses := true, apart := false, narrowed := true }
def ModelBackUptoSaid : Prop := modelBackUptoRow.holds Try.pinned (OpenSpec.upto modelBackSpec)

/-- 'gypsumlaw05.ModelOne', WHERE WHAT IT READS IS OF BULK AT MOST 1048576: true; the input reads as it did. -/
def modelOneUptoRow : OpenClaim := { program := "ytbhpcpcpccmacaa", sum := "70366a7dcd7977abad36144c367fe297a103391a35b2eb411791d6447805db24", func := "gypsum/gypsumlaw05.ModelOne", spec := "modelOne", unfollowed := true, recurses := true, apart := false, narrowed := true }
def ModelOneUptoSaid : Prop := modelOneUptoRow.holds Try.pinned (OpenSpec.upto modelOneSpec)

/-- 'gypsumlaw05.ModelPlain', WHERE WHAT IT READS IS OF BULK AT MOST 1048576: true; the input reads as it did. -/
def modelPlainUptoRow : OpenClaim := { program := "ytbhpcpcpccmacaa", sum := "70366a7dcd7977abad36144c367fe297a103391a35b2eb411791d6447805db24", func := "gypsum/gypsumlaw05.ModelPlain", spec := "modelPlain", unfollowed := true, recurses := true, apart := false, narrowed := true }
def ModelPlainUptoSaid : Prop := modelPlainUptoRow.holds Try.pinned (OpenSpec.upto modelPlainSpec)

/-- 'gypsumlaw05.ModelSame', WHERE WHAT IT READS IS OF BULK AT MOST 1048576: true; the input reads as it did. -/
def modelSameUptoRow : OpenClaim := { program := "ytbhpcpcpccmacaa", sum := "70366a7dcd7977abad36144c367fe297a103391a35b2eb411791d6447805db24", func := "gypsum/gypsumlaw05.ModelSame", spec := "modelSame", unfollowed := true, recurses := true, apart := false, narrowed := true }
def ModelSameUptoSaid : Prop := modelSameUptoRow.holds Try.pinned (OpenSpec.upto modelSameSpec)

/-- 'gypsumlaw05.ModelContexts', WHERE WHAT IT READS IS OF BULK AT MOST 1048576: true; the input reads as it did. -/
def modelContextsUptoRow : OpenClaim := { program := "ytbhpcpcpccmacaa", sum := "70366a7dcd7977abad36144c367fe297a103391a35b2eb411791d6447805db24", func := "gypsum/gypsumlaw05.ModelContexts", spec := "modelContexts", unfollowed := true, recurses := true, apart := false, narrowed := true }
def ModelContextsUptoSaid : Prop := modelContextsUptoRow.holds Try.pinned (OpenSpec.upto modelContextsSpec)

/-- 'gypsumlaw05.ModelNone', WHERE WHAT IT READS IS OF BULK AT MOST 1048576: true; the input reads as it did. -/
def modelNoneUptoRow : OpenClaim := { program := "ytbhpcpcpccmacaa", sum := "70366a7dcd7977abad36144c367fe297a103391a35b2eb411791d6447805db24", func := "gypsum/gypsumlaw05.ModelNone", spec := "modelNone", unfollowed := true, recurses := true, apart := false, narrowed := true }
def ModelNoneUptoSaid : Prop := modelNoneUptoRow.holds Try.pinned (OpenSpec.upto modelNoneSpec)

/-- 'gypsumlaw29.ResidualTells', WHERE WHAT IT READS IS OF BULK AT MOST 1048576: true; the input reads as it did. -/
def residualTellsUptoRow : OpenClaim := { program := "ytbhpcpcpccmacaa", sum := "70366a7dcd7977abad36144c367fe297a103391a35b2eb411791d6447805db24", func := "gypsum/gypsumlaw29.ResidualTells", spec := "residualTells", unfollowed := true, recurses := true, apart := false, narrowed := true }
def ResidualTellsUptoSaid : Prop := residualTellsUptoRow.holds Try.pinned (OpenSpec.upto residualTellsSpec)

/-- 'gypsumlaw29.ResidualBack', WHERE WHAT IT READS IS OF BULK AT MOST 1048576: true; the input reads as it did. -/
def residualBackUptoRow : OpenClaim := { program := "ytbhpcpcpccmacaa", sum := "70366a7dcd7977abad36144c367fe297a103391a35b2eb411791d6447805db24", func := "gypsum/gypsumlaw29.ResidualBack", spec := "residualBack", unfollowed := true, recurses := true, apart := false, narrowed := true }
def ResidualBackUptoSaid : Prop := residualBackUptoRow.holds Try.pinned (OpenSpec.upto residualBackSpec)

/-- 'gypsumlaw29.ResidualEncodes', WHERE WHAT IT READS IS OF BULK AT MOST 1048576: true; the input reads as it did. -/
def residualEncodesUptoRow : OpenClaim := { program := "ytbhpcpcpccmacaa", sum := "70366a7dcd7977abad36144c367fe297a103391a35b2eb411791d6447805db24", func := "gypsum/gypsumlaw29.ResidualEncodes", spec := "residualEncodes", unfollowed := true, recurses := true, apart := false, narrowed := true }
def ResidualEncodesUptoSaid : Prop := residualEncodesUptoRow.holds Try.pinned (OpenSpec.upto residualEncodesSpec)

/-- 'gypsumlaw29.ResidualRows', WHERE WHAT IT READS IS OF BULK AT MOST 1048576: true; the input reads as it did. -/
def residualRowsUptoRow : OpenClaim := { program := "ytbhpcpcpccmacaa", sum := "70366a7dcd7977abad36144c367fe297a103391a35b2eb411791d6447805db24", func := "gypsum/gypsumlaw29.ResidualRows", spec := "residualRows", unfollowed := true, recurses := true, apart := false, narrowed := true }
def ResidualRowsUptoSaid : Prop := residualRowsUptoRow.holds Try.pinned (OpenSpec.upto residualRowsSpec)

/-- 'gypsumlaw29.ResidualOne', WHERE WHAT IT READS IS OF BULK AT MOST 1048576: true; the input reads as it did. -/
def residualOneUptoRow : OpenClaim := { program := "ytbhpcpcpccmacaa", sum := "70366a7dcd7977abad36144c367fe297a103391a35b2eb411791d6447805db24", func := "gypsum/gypsumlaw29.ResidualOne", spec := "residualOne", unfollowed := true, recurses := true, apart := false, narrowed := true }
def ResidualOneUptoSaid : Prop := residualOneUptoRow.holds Try.pinned (OpenSpec.upto residualOneSpec)

/-- 'gypsumlaw29.ResidualCost', WHERE WHAT IT READS IS OF BULK AT MOST 1048576: true; the input reads as it did. -/
def residualCostUptoRow : OpenClaim := { program := "ytbhpcpcpccmacaa", sum := "70366a7dcd7977abad36144c367fe297a103391a35b2eb411791d6447805db24", func := "gypsum/gypsumlaw29.ResidualCost", spec := "residualCost", unfollowed := true, recurses := true, apart := false, narrowed := true }
def ResidualCostUptoSaid : Prop := residualCostUptoRow.holds Try.pinned (OpenSpec.upto residualCostSpec)

end Rows
end Go.Proofs.Ytbhpcpcpccmacaa
