/-
  No cell of these rows narrows 'for every input' (looked for: loops, veiled, ifaces, maps, wideKeys, modest, calm, conditions, laid).
  DERIVED. THE GIVEN ROWS OF THIS SEAT. 8 by the template 'for every input the law returns true; each argument reads behind the call as it read before'; 0 by the template 'total and deterministic' (their statements: YtmihlbecmagmbaaTotals.lean).
  GIVEN WITH THE SEED: the statements are not yours to turn. If you find one false, say at which input.
  Laid BY PROGRAM, IN A SANDBOX (cutbox-rows.mjs): the forced cells as the released guide's own fill.sh prints them over the translation 016f7f7a7cb8e8c4… (all of the seat's roots in one cut). By AI agents, Wed Nov 11 2026. No macro, syntax, notation, axiom, sorry.
-/
import Derived.Test.YtmihlbecmagmbaaChecked
import GoSem.Claim
import GoSem.ClaimJoined
import GoSem.ClaimMapViews
import Derived.JoinedTies
import Derived.KernelRfl
namespace Go.Proofs.Ytmihlbecmagmbaa
/- THE CELL 'sum', in the pinned program and in every row, IS THE sha256 OF THE DUMP (.gsa) THAT YtmihlbecmagmbaaProg.lean LOADS. Nothing in Lean hashes anything: it is a label: what it is worth is what the hold of that sum in a sandbox is worth. -/
noncomputable def Try.pinned : Pinned := { name := "ytmihlbecmagmbaa", sum := "016f7f7a7cb8e8c4744fa0b9fceef4e475c2a9d56a5792d68c9fcfe34d9b837d", checked := Try.checked }
namespace Rows
def none {H : Type} : Left H := { results := [], args := [] }

/-- 'gypsumlaw22.WordLeast': WHATEVER THE INPUT: true; the input reads as it did. -/
def wordLeastSpec : ChangeSpec := { name := "wordLeast", fn := fun _ => fun
  | [d] => { results := [.lit (.bool true)], args := [d] }
  | _ => none }
def wordLeastRow : OpenClaim := { program := "ytmihlbecmagmbaa", sum := "016f7f7a7cb8e8c4744fa0b9fceef4e475c2a9d56a5792d68c9fcfe34d9b837d", func := "gypsum/gypsumlaw22.WordLeast", spec := "wordLeast", unfollowed := true, recurses := true, apart := false }
def WordLeastSaid : Prop := wordLeastRow.holds Try.pinned (OpenSpec.ofChange wordLeastSpec)

/-- ITS FALSE NEIGHBOUR: 'it returns false'. Refute it at one input. -/
def wordLeastWrong : ChangeSpec := { name := "wordLeast", fn := fun _ => fun
  | [d] => { results := [.lit (.bool false)], args := [d] }
  | _ => none }
def WordLeastWrongFalsely : Prop := wordLeastRow.holds Try.pinned (OpenSpec.ofChange wordLeastWrong)

/-- 'gypsumlaw22.WordSpoilt': WHATEVER THE INPUT: true; the input reads as it did. -/
def wordSpoiltSpec : ChangeSpec := { name := "wordSpoilt", fn := fun _ => fun
  | [d1, d2, d3] => { results := [.lit (.bool true)], args := [d1, d2, d3] }
  | _ => none }
def wordSpoiltRow : OpenClaim := { program := "ytmihlbecmagmbaa", sum := "016f7f7a7cb8e8c4744fa0b9fceef4e475c2a9d56a5792d68c9fcfe34d9b837d", func := "gypsum/gypsumlaw22.WordSpoilt", spec := "wordSpoilt", unfollowed := true, recurses := true, apart := false }
def WordSpoiltSaid : Prop := wordSpoiltRow.holds Try.pinned (OpenSpec.ofChange wordSpoiltSpec)

/-- ITS FALSE NEIGHBOUR: 'it returns false'. Refute it at one input. -/
def wordSpoiltWrong : ChangeSpec := { name := "wordSpoilt", fn := fun _ => fun
  | [d1, d2, d3] => { results := [.lit (.bool false)], args := [d1, d2, d3] }
  | _ => none }
def WordSpoiltWrongFalsely : Prop := wordSpoiltRow.holds Try.pinned (OpenSpec.ofChange wordSpoiltWrong)

/-- 'gypsumlaw22.WordTurned': WHATEVER THE INPUT: true; the input reads as it did. -/
def wordTurnedSpec : ChangeSpec := { name := "wordTurned", fn := fun _ => fun
  | [d] => { results := [.lit (.bool true)], args := [d] }
  | _ => none }
def wordTurnedRow : OpenClaim := { program := "ytmihlbecmagmbaa", sum := "016f7f7a7cb8e8c4744fa0b9fceef4e475c2a9d56a5792d68c9fcfe34d9b837d", func := "gypsum/gypsumlaw22.WordTurned", spec := "wordTurned", unfollowed := true, recurses := true, apart := false }
def WordTurnedSaid : Prop := wordTurnedRow.holds Try.pinned (OpenSpec.ofChange wordTurnedSpec)

/-- ITS FALSE NEIGHBOUR: 'it returns false'. Refute it at one input. -/
def wordTurnedWrong : ChangeSpec := { name := "wordTurned", fn := fun _ => fun
  | [d] => { results := [.lit (.bool false)], args := [d] }
  | _ => none }
def WordTurnedWrongFalsely : Prop := wordTurnedRow.holds Try.pinned (OpenSpec.ofChange wordTurnedWrong)

/-- 'gypsumlaw22.WordLengths': WHATEVER THE INPUT: true; the input reads as it did. -/
def wordLengthsSpec : ChangeSpec := { name := "wordLengths", fn := fun _ => fun
  | [d] => { results := [.lit (.bool true)], args := [d] }
  | _ => none }
def wordLengthsRow : OpenClaim := { program := "ytmihlbecmagmbaa", sum := "016f7f7a7cb8e8c4744fa0b9fceef4e475c2a9d56a5792d68c9fcfe34d9b837d", func := "gypsum/gypsumlaw22.WordLengths", spec := "wordLengths", unfollowed := true, recurses := true, apart := false }
def WordLengthsSaid : Prop := wordLengthsRow.holds Try.pinned (OpenSpec.ofChange wordLengthsSpec)

/-- ITS FALSE NEIGHBOUR: 'it returns false'. Refute it at one input. -/
def wordLengthsWrong : ChangeSpec := { name := "wordLengths", fn := fun _ => fun
  | [d] => { results := [.lit (.bool false)], args := [d] }
  | _ => none }
def WordLengthsWrongFalsely : Prop := wordLengthsRow.holds Try.pinned (OpenSpec.ofChange wordLengthsWrong)

/-- 'gypsumlaw22.WordCosts': WHATEVER THE INPUT: true; the input reads as it did. -/
def wordCostsSpec : ChangeSpec := { name := "wordCosts", fn := fun _ => fun
  | [d] => { results := [.lit (.bool true)], args := [d] }
  | _ => none }
def wordCostsRow : OpenClaim := { program := "ytmihlbecmagmbaa", sum := "016f7f7a7cb8e8c4744fa0b9fceef4e475c2a9d56a5792d68c9fcfe34d9b837d", func := "gypsum/gypsumlaw22.WordCosts", spec := "wordCosts", unfollowed := true, recurses := true, apart := false }
def WordCostsSaid : Prop := wordCostsRow.holds Try.pinned (OpenSpec.ofChange wordCostsSpec)

/-- ITS FALSE NEIGHBOUR: 'it returns false'. Refute it at one input. -/
def wordCostsWrong : ChangeSpec := { name := "wordCosts", fn := fun _ => fun
  | [d] => { results := [.lit (.bool false)], args := [d] }
  | _ => none }
def WordCostsWrongFalsely : Prop := wordCostsRow.holds Try.pinned (OpenSpec.ofChange wordCostsWrong)

/-- 'gypsumlaw22.WordEncodes': WHATEVER THE INPUT: true; the input reads as it did. -/
def wordEncodesSpec : ChangeSpec := { name := "wordEncodes", fn := fun _ => fun
  | [d] => { results := [.lit (.bool true)], args := [d] }
  | _ => none }
def wordEncodesRow : OpenClaim := { program := "ytmihlbecmagmbaa", sum := "016f7f7a7cb8e8c4744fa0b9fceef4e475c2a9d56a5792d68c9fcfe34d9b837d", func := "gypsum/gypsumlaw22.WordEncodes", spec := "wordEncodes", unfollowed := true, recurses := true, apart := false }
def WordEncodesSaid : Prop := wordEncodesRow.holds Try.pinned (OpenSpec.ofChange wordEncodesSpec)

/-- ITS FALSE NEIGHBOUR: 'it returns false'. Refute it at one input. -/
def wordEncodesWrong : ChangeSpec := { name := "wordEncodes", fn := fun _ => fun
  | [d] => { results := [.lit (.bool false)], args := [d] }
  | _ => none }
def WordEncodesWrongFalsely : Prop := wordEncodesRow.holds Try.pinned (OpenSpec.ofChange wordEncodesWrong)

/-- 'gypsumlaw22.WordDecodes': WHATEVER THE INPUT: true; the input reads as it did. -/
def wordDecodesSpec : ChangeSpec := { name := "wordDecodes", fn := fun _ => fun
  | [d1, d2] => { results := [.lit (.bool true)], args := [d1, d2] }
  | _ => none }
def wordDecodesRow : OpenClaim := { program := "ytmihlbecmagmbaa", sum := "016f7f7a7cb8e8c4744fa0b9fceef4e475c2a9d56a5792d68c9fcfe34d9b837d", func := "gypsum/gypsumlaw22.WordDecodes", spec := "wordDecodes", unfollowed := true, recurses := true, apart := false }
def WordDecodesSaid : Prop := wordDecodesRow.holds Try.pinned (OpenSpec.ofChange wordDecodesSpec)

/-- ITS FALSE NEIGHBOUR: 'it returns false'. Refute it at one input. -/
def wordDecodesWrong : ChangeSpec := { name := "wordDecodes", fn := fun _ => fun
  | [d1, d2] => { results := [.lit (.bool false)], args := [d1, d2] }
  | _ => none }
def WordDecodesWrongFalsely : Prop := wordDecodesRow.holds Try.pinned (OpenSpec.ofChange wordDecodesWrong)

/-- 'gypsumlaw22.WordRows': WHATEVER THE INPUT: true; the input reads as it did. -/
def wordRowsSpec : ChangeSpec := { name := "wordRows", fn := fun _ => fun
  | [d] => { results := [.lit (.bool true)], args := [d] }
  | _ => none }
def wordRowsRow : OpenClaim := { program := "ytmihlbecmagmbaa", sum := "016f7f7a7cb8e8c4744fa0b9fceef4e475c2a9d56a5792d68c9fcfe34d9b837d", func := "gypsum/gypsumlaw22.WordRows", spec := "wordRows", unfollowed := true, recurses := true, apart := false }
def WordRowsSaid : Prop := wordRowsRow.holds Try.pinned (OpenSpec.ofChange wordRowsSpec)

/-- ITS FALSE NEIGHBOUR: 'it returns false'. Refute it at one input. -/
def wordRowsWrong : ChangeSpec := { name := "wordRows", fn := fun _ => fun
  | [d] => { results := [.lit (.bool false)], args := [d] }
  | _ => none }
def WordRowsWrongFalsely : Prop := wordRowsRow.holds Try.pinned (OpenSpec.ofChange wordRowsWrong)

/- THE SECOND FORM. 'bulk': how many values and letters a reading holds, each counted each time it is reached (what is shared counts as often as it is met; a slice's spare places count too). A statement '..UptoSaid' is the law's where the arguments, and the package variables that the reading takes, are together of bulk at most 1048576: NARROWER than '..Said'. Prove '..Said' where nothing that the law and all that it calls make is longer than what came in: it says more and counts as full. Else prove '..UptoSaid'. A law counts once. -/
mutual
def uptoBulk {H : Type} : DataW H → Nat
  | .lit (.string bytes) => bytes.length + 1
  | .lit _ => 1
  | .nil => 1
  | .ptr d => uptoBulk d + 1
  | .slice elems spare => uptoBulkAll elems + uptoBulkAll spare + 1
  | .agg parts => uptoBulkAll parts + 1
  | .iface _ d => uptoBulk d + 1
  | .map entries => uptoBulkEntries entries + 1
  | .held _ => 1
def uptoBulkAll {H : Type} : List (DataW H) → Nat
  | [] => 0
  | d :: r => uptoBulk d + uptoBulkAll r
def uptoBulkEntries {H : Type} : List (Lit × DataW H) → Nat
  | [] => 0
  | x :: r => uptoBulkEntry x + uptoBulkEntries r
def uptoBulkEntry {H : Type} : Lit × DataW H → Nat
  | (.string bytes, d) => bytes.length + uptoBulk d + 1
  | (_, d) => uptoBulk d + 1
 end
def uptoSmall : (H : Type) → List (DataW H) → Bool := fun _ ds => decide (uptoBulkAll ds ≤ 1048576)
def OpenSpec.upto (s : _root_.Go.ChangeSpec) : _root_.Go.OpenSpec := { _root_.Go.OpenSpec.ofChange s with cond := some uptoSmall }

/-- 'gypsumlaw22.WordLeast', WHERE WHAT IT READS IS OF BULK AT MOST 1048576: true; the input reads as it did. -/
def wordLeastUptoRow : OpenClaim := { program := "ytmihlbecmagmbaa", sum := "016f7f7a7cb8e8c4744fa0b9fceef4e475c2a9d56a5792d68c9fcfe34d9b837d", func := "gypsum/gypsumlaw22.WordLeast", spec := "wordLeast", unfollowed := true, recurses := true, apart := false, narrowed := true }
def WordLeastUptoSaid : Prop := wordLeastUptoRow.holds Try.pinned (OpenSpec.upto wordLeastSpec)

/-- 'gypsumlaw22.WordSpoilt', WHERE WHAT IT READS IS OF BULK AT MOST 1048576: true; the input reads as it did. -/
def wordSpoiltUptoRow : OpenClaim := { program := "ytmihlbecmagmbaa", sum := "016f7f7a7cb8e8c4744fa0b9fceef4e475c2a9d56a5792d68c9fcfe34d9b837d", func := "gypsum/gypsumlaw22.WordSpoilt", spec := "wordSpoilt", unfollowed := true, recurses := true, apart := false, narrowed := true }
def WordSpoiltUptoSaid : Prop := wordSpoiltUptoRow.holds Try.pinned (OpenSpec.upto wordSpoiltSpec)

/-- 'gypsumlaw22.WordTurned', WHERE WHAT IT READS IS OF BULK AT MOST 1048576: true; the input reads as it did. -/
def wordTurnedUptoRow : OpenClaim := { program := "ytmihlbecmagmbaa", sum := "016f7f7a7cb8e8c4744fa0b9fceef4e475c2a9d56a5792d68c9fcfe34d9b837d", func := "gypsum/gypsumlaw22.WordTurned", spec := "wordTurned", unfollowed := true, recurses := true, apart := false, narrowed := true }
def WordTurnedUptoSaid : Prop := wordTurnedUptoRow.holds Try.pinned (OpenSpec.upto wordTurnedSpec)

/-- 'gypsumlaw22.WordLengths', WHERE WHAT IT READS IS OF BULK AT MOST 1048576: true; the input reads as it did. -/
def wordLengthsUptoRow : OpenClaim := { program := "ytmihlbecmagmbaa", sum := "016f7f7a7cb8e8c4744fa0b9fceef4e475c2a9d56a5792d68c9fcfe34d9b837d", func := "gypsum/gypsumlaw22.WordLengths", spec := "wordLengths", unfollowed := true, recurses := true, apart := false, narrowed := true }
def WordLengthsUptoSaid : Prop := wordLengthsUptoRow.holds Try.pinned (OpenSpec.upto wordLengthsSpec)

/-- 'gypsumlaw22.WordCosts', WHERE WHAT IT READS IS OF BULK AT MOST 1048576: true; the input reads as it did. -/
def wordCostsUptoRow : OpenClaim := { program := "ytmihlbecmagmbaa", sum := "016f7f7a7cb8e8c4744fa0b9fceef4e475c2a9d56a5792d68c9fcfe34d9b837d", func := "gypsum/gypsumlaw22.WordCosts", spec := "wordCosts", unfollowed := true, recurses := true, apart := false, narrowed := true }
def WordCostsUptoSaid : Prop := wordCostsUptoRow.holds Try.pinned (OpenSpec.upto wordCostsSpec)

/-- 'gypsumlaw22.WordEncodes', WHERE WHAT IT READS IS OF BULK AT MOST 1048576: true; the input reads as it did. -/
def wordEncodesUptoRow : OpenClaim := { program := "ytmihlbecmagmbaa", sum := "016f7f7a7cb8e8c4744fa0b9fceef4e475c2a9d56a5792d68c9fcfe34d9b837d", func := "gypsum/gypsumlaw22.WordEncodes", spec := "wordEncodes", unfollowed := true, recurses := true, apart := false, narrowed := true }
def WordEncodesUptoSaid : Prop := wordEncodesUptoRow.holds Try.pinned (OpenSpec.upto wordEncodesSpec)

/-- 'gypsumlaw22.WordDecodes', WHERE WHAT IT READS IS OF BULK AT MOST 1048576: true; the input reads as it did. -/
def wordDecodesUptoRow : OpenClaim := { program := "ytmihlbecmagmbaa", sum := "016f7f7a7cb8e8c4744fa0b9fceef4e475c2a9d56a5792d68c9fcfe34d9b837d", func := "gypsum/gypsumlaw22.WordDecodes", spec := "wordDecodes", unfollowed := true, recurses := true, apart := false, narrowed := true }
def WordDecodesUptoSaid : Prop := wordDecodesUptoRow.holds Try.pinned (OpenSpec.upto wordDecodesSpec)

/-- 'gypsumlaw22.WordRows', WHERE WHAT IT READS IS OF BULK AT MOST 1048576: true; the input reads as it did. -/
def wordRowsUptoRow : OpenClaim := { program := "ytmihlbecmagmbaa", sum := "016f7f7a7cb8e8c4744fa0b9fceef4e475c2a9d56a5792d68c9fcfe34d9b837d", func := "gypsum/gypsumlaw22.WordRows", spec := "wordRows", unfollowed := true, recurses := true, apart := false, narrowed := true }
def WordRowsUptoSaid : Prop := wordRowsUptoRow.holds Try.pinned (OpenSpec.upto wordRowsSpec)

end Rows
end Go.Proofs.Ytmihlbecmagmbaa
