/-
  No cell of these rows narrows 'for every input' (looked for: loops, veiled, ifaces, maps, wideKeys, modest, calm, conditions, laid).
  DERIVED. THE GIVEN ROWS OF THIS SEAT. 15 by the template 'for every input the law returns true; each argument reads behind the call as it read before'; 0 by the template 'total and deterministic' (their statements: YtglinpclcmmnbaaTotals.lean).
  GIVEN WITH THE SEED: the statements are not yours to turn. If you find one false, say at which input.
  Laid BY PROGRAM, IN A SANDBOX (cutbox-rows.mjs): the forced cells as the released guide's own fill.sh prints them over the translation cbbe159261709d16… (all of the seat's roots in one cut). By AI agents, Wed Nov 11 2026. No macro, syntax, notation, axiom, sorry.
-/
import Derived.Test.YtglinpclcmmnbaaChecked
import GoSem.Claim
import GoSem.ClaimJoined
import GoSem.ClaimMapViews
import Derived.JoinedTies
import Derived.KernelRfl
namespace Go.Proofs.Ytglinpclcmmnbaa
/- THE CELL 'sum', in the pinned program and in every row, IS THE sha256 OF THE DUMP (.gsa) THAT YtglinpclcmmnbaaProg.lean LOADS. Nothing in Lean hashes anything: it is a label: what it is worth is what the hold of that sum in a sandbox is worth. -/
noncomputable def Try.pinned : Pinned := { name := "ytglinpclcmmnbaa", sum := "cbbe159261709d163e40cb306cc9868b9fdcfbd1da1e306eb94686993b62bc32", checked := Try.checked }
namespace Rows
def none {H : Type} : Left H := { results := [], args := [] }

/-- 'gypsumlaw03.TableMakes': WHATEVER THE INPUT: true; the input reads as it did. -/
def tableMakesSpec : ChangeSpec := { name := "tableMakes", fn := fun _ => fun
  | [d1, d2, d3] => { results := [.lit (.bool true)], args := [d1, d2, d3] }
  | _ => none }
def tableMakesRow : OpenClaim := { program := "ytglinpclcmmnbaa", sum := "cbbe159261709d163e40cb306cc9868b9fdcfbd1da1e306eb94686993b62bc32", func := "gypsum/gypsumlaw03.TableMakes", spec := "tableMakes", unfollowed := true, recurses := true, apart := false }
def TableMakesSaid : Prop := tableMakesRow.holds Try.pinned (OpenSpec.ofChange tableMakesSpec)

/-- ITS FALSE NEIGHBOUR: 'it returns false'. Refute it at one input. -/
def tableMakesWrong : ChangeSpec := { name := "tableMakes", fn := fun _ => fun
  | [d1, d2, d3] => { results := [.lit (.bool false)], args := [d1, d2, d3] }
  | _ => none }
def TableMakesWrongFalsely : Prop := tableMakesRow.holds Try.pinned (OpenSpec.ofChange tableMakesWrong)

/-- 'gypsumlaw03.TableBumps': WHATEVER THE INPUT: true; the input reads as it did. -/
def tableBumpsSpec : ChangeSpec := { name := "tableBumps", fn := fun _ => fun
  | [d1, d2] => { results := [.lit (.bool true)], args := [d1, d2] }
  | _ => none }
def tableBumpsRow : OpenClaim := { program := "ytglinpclcmmnbaa", sum := "cbbe159261709d163e40cb306cc9868b9fdcfbd1da1e306eb94686993b62bc32", func := "gypsum/gypsumlaw03.TableBumps", spec := "tableBumps", unfollowed := true, recurses := true, apart := false }
def TableBumpsSaid : Prop := tableBumpsRow.holds Try.pinned (OpenSpec.ofChange tableBumpsSpec)

/-- ITS FALSE NEIGHBOUR: 'it returns false'. Refute it at one input. -/
def tableBumpsWrong : ChangeSpec := { name := "tableBumps", fn := fun _ => fun
  | [d1, d2] => { results := [.lit (.bool false)], args := [d1, d2] }
  | _ => none }
def TableBumpsWrongFalsely : Prop := tableBumpsRow.holds Try.pinned (OpenSpec.ofChange tableBumpsWrong)

/-- 'gypsumlaw03.TableFinds': WHATEVER THE INPUT: true; the input reads as it did. -/
def tableFindsSpec : ChangeSpec := { name := "tableFinds", fn := fun _ => fun
  | [d1, d2, d3] => { results := [.lit (.bool true)], args := [d1, d2, d3] }
  | _ => none }
def tableFindsRow : OpenClaim := { program := "ytglinpclcmmnbaa", sum := "cbbe159261709d163e40cb306cc9868b9fdcfbd1da1e306eb94686993b62bc32", func := "gypsum/gypsumlaw03.TableFinds", spec := "tableFinds", unfollowed := true, recurses := true, apart := false }
def TableFindsSaid : Prop := tableFindsRow.holds Try.pinned (OpenSpec.ofChange tableFindsSpec)

/-- ITS FALSE NEIGHBOUR: 'it returns false'. Refute it at one input. -/
def tableFindsWrong : ChangeSpec := { name := "tableFinds", fn := fun _ => fun
  | [d1, d2, d3] => { results := [.lit (.bool false)], args := [d1, d2, d3] }
  | _ => none }
def TableFindsWrongFalsely : Prop := tableFindsRow.holds Try.pinned (OpenSpec.ofChange tableFindsWrong)

/-- 'gypsumlaw03.TableBounds': WHATEVER THE INPUT: true; the input reads as it did. -/
def tableBoundsSpec : ChangeSpec := { name := "tableBounds", fn := fun _ => fun
  | [d1, d2, d3] => { results := [.lit (.bool true)], args := [d1, d2, d3] }
  | _ => none }
def tableBoundsRow : OpenClaim := { program := "ytglinpclcmmnbaa", sum := "cbbe159261709d163e40cb306cc9868b9fdcfbd1da1e306eb94686993b62bc32", func := "gypsum/gypsumlaw03.TableBounds", spec := "tableBounds", unfollowed := true, recurses := true, apart := false }
def TableBoundsSaid : Prop := tableBoundsRow.holds Try.pinned (OpenSpec.ofChange tableBoundsSpec)

/-- ITS FALSE NEIGHBOUR: 'it returns false'. Refute it at one input. -/
def tableBoundsWrong : ChangeSpec := { name := "tableBounds", fn := fun _ => fun
  | [d1, d2, d3] => { results := [.lit (.bool false)], args := [d1, d2, d3] }
  | _ => none }
def TableBoundsWrongFalsely : Prop := tableBoundsRow.holds Try.pinned (OpenSpec.ofChange tableBoundsWrong)

/-- 'gypsumlaw03.TableLimits': WHATEVER THE INPUT: true; the input reads as it did. -/
def tableLimitsSpec : ChangeSpec := { name := "tableLimits", fn := fun _ => fun
  | [d1, d2] => { results := [.lit (.bool true)], args := [d1, d2] }
  | _ => none }
def tableLimitsRow : OpenClaim := { program := "ytglinpclcmmnbaa", sum := "cbbe159261709d163e40cb306cc9868b9fdcfbd1da1e306eb94686993b62bc32", func := "gypsum/gypsumlaw03.TableLimits", spec := "tableLimits", unfollowed := true, recurses := true, apart := false }
def TableLimitsSaid : Prop := tableLimitsRow.holds Try.pinned (OpenSpec.ofChange tableLimitsSpec)

/-- ITS FALSE NEIGHBOUR: 'it returns false'. Refute it at one input. -/
def tableLimitsWrong : ChangeSpec := { name := "tableLimits", fn := fun _ => fun
  | [d1, d2] => { results := [.lit (.bool false)], args := [d1, d2] }
  | _ => none }
def TableLimitsWrongFalsely : Prop := tableLimitsRow.holds Try.pinned (OpenSpec.ofChange tableLimitsWrong)

/-- 'gypsumlaw03.TableMoves': WHATEVER THE INPUT: true; the input reads as it did. -/
def tableMovesSpec : ChangeSpec := { name := "tableMoves", fn := fun _ => fun
  | [d1, d2] => { results := [.lit (.bool true)], args := [d1, d2] }
  | _ => none }
def tableMovesRow : OpenClaim := { program := "ytglinpclcmmnbaa", sum := "cbbe159261709d163e40cb306cc9868b9fdcfbd1da1e306eb94686993b62bc32", func := "gypsum/gypsumlaw03.TableMoves", spec := "tableMoves", unfollowed := true, recurses := true, apart := false }
def TableMovesSaid : Prop := tableMovesRow.holds Try.pinned (OpenSpec.ofChange tableMovesSpec)

/-- ITS FALSE NEIGHBOUR: 'it returns false'. Refute it at one input. -/
def tableMovesWrong : ChangeSpec := { name := "tableMoves", fn := fun _ => fun
  | [d1, d2] => { results := [.lit (.bool false)], args := [d1, d2] }
  | _ => none }
def TableMovesWrongFalsely : Prop := tableMovesRow.holds Try.pinned (OpenSpec.ofChange tableMovesWrong)

/-- 'gypsumlaw03.TableClones': WHATEVER THE INPUT: true; the input reads as it did. -/
def tableClonesSpec : ChangeSpec := { name := "tableClones", fn := fun _ => fun
  | [d1, d2, d3] => { results := [.lit (.bool true)], args := [d1, d2, d3] }
  | _ => none }
def tableClonesRow : OpenClaim := { program := "ytglinpclcmmnbaa", sum := "cbbe159261709d163e40cb306cc9868b9fdcfbd1da1e306eb94686993b62bc32", func := "gypsum/gypsumlaw03.TableClones", spec := "tableClones", unfollowed := true, recurses := true, apart := false }
def TableClonesSaid : Prop := tableClonesRow.holds Try.pinned (OpenSpec.ofChange tableClonesSpec)

/-- ITS FALSE NEIGHBOUR: 'it returns false'. Refute it at one input. -/
def tableClonesWrong : ChangeSpec := { name := "tableClones", fn := fun _ => fun
  | [d1, d2, d3] => { results := [.lit (.bool false)], args := [d1, d2, d3] }
  | _ => none }
def TableClonesWrongFalsely : Prop := tableClonesRow.holds Try.pinned (OpenSpec.ofChange tableClonesWrong)

/-- 'gypsumlaw03.TableNone': WHATEVER THE INPUT: true; the input reads as it did. -/
def tableNoneSpec : ChangeSpec := { name := "tableNone", fn := fun _ => fun
  | [d1, d2] => { results := [.lit (.bool true)], args := [d1, d2] }
  | _ => none }
def tableNoneRow : OpenClaim := { program := "ytglinpclcmmnbaa", sum := "cbbe159261709d163e40cb306cc9868b9fdcfbd1da1e306eb94686993b62bc32", func := "gypsum/gypsumlaw03.TableNone", spec := "tableNone", unfollowed := true, recurses := true, apart := false }
def TableNoneSaid : Prop := tableNoneRow.holds Try.pinned (OpenSpec.ofChange tableNoneSpec)

/-- ITS FALSE NEIGHBOUR: 'it returns false'. Refute it at one input. -/
def tableNoneWrong : ChangeSpec := { name := "tableNone", fn := fun _ => fun
  | [d1, d2] => { results := [.lit (.bool false)], args := [d1, d2] }
  | _ => none }
def TableNoneWrongFalsely : Prop := tableNoneRow.holds Try.pinned (OpenSpec.ofChange tableNoneWrong)

/-- 'gypsumlaw04.CoderBytes': WHATEVER THE INPUT: true; the input reads as it did. -/
def coderBytesSpec : ChangeSpec := { name := "coderBytes", fn := fun _ => fun
  | [d] => { results := [.lit (.bool true)], args := [d] }
  | _ => none }
def coderBytesRow : OpenClaim := { program := "ytglinpclcmmnbaa", sum := "cbbe159261709d163e40cb306cc9868b9fdcfbd1da1e306eb94686993b62bc32", func := "gypsum/gypsumlaw04.CoderBytes", spec := "coderBytes", apart := false }
def CoderBytesSaid : Prop := coderBytesRow.holds Try.pinned (OpenSpec.ofChange coderBytesSpec)

/-- ITS FALSE NEIGHBOUR: 'it returns false'. Refute it at one input. -/
def coderBytesWrong : ChangeSpec := { name := "coderBytes", fn := fun _ => fun
  | [d] => { results := [.lit (.bool false)], args := [d] }
  | _ => none }
def CoderBytesWrongFalsely : Prop := coderBytesRow.holds Try.pinned (OpenSpec.ofChange coderBytesWrong)

/-- 'gypsumlaw04.CoderFew': WHATEVER THE INPUT: true; the input reads as it did. -/
def coderFewSpec : ChangeSpec := { name := "coderFew", fn := fun _ => fun
  | [d1, d2] => { results := [.lit (.bool true)], args := [d1, d2] }
  | _ => none }
def coderFewRow : OpenClaim := { program := "ytglinpclcmmnbaa", sum := "cbbe159261709d163e40cb306cc9868b9fdcfbd1da1e306eb94686993b62bc32", func := "gypsum/gypsumlaw04.CoderFew", spec := "coderFew", apart := false }
def CoderFewSaid : Prop := coderFewRow.holds Try.pinned (OpenSpec.ofChange coderFewSpec)

/-- ITS FALSE NEIGHBOUR: 'it returns false'. Refute it at one input. -/
def coderFewWrong : ChangeSpec := { name := "coderFew", fn := fun _ => fun
  | [d1, d2] => { results := [.lit (.bool false)], args := [d1, d2] }
  | _ => none }
def CoderFewWrongFalsely : Prop := coderFewRow.holds Try.pinned (OpenSpec.ofChange coderFewWrong)

/-- 'gypsumlaw04.CoderGoes': WHATEVER THE INPUT: true; the input reads as it did. -/
def coderGoesSpec : ChangeSpec := { name := "coderGoes", fn := fun _ => fun
  | [d1, d2] => { results := [.lit (.bool true)], args := [d1, d2] }
  | _ => none }
def coderGoesRow : OpenClaim := { program := "ytglinpclcmmnbaa", sum := "cbbe159261709d163e40cb306cc9868b9fdcfbd1da1e306eb94686993b62bc32", func := "gypsum/gypsumlaw04.CoderGoes", spec := "coderGoes", apart := false }
def CoderGoesSaid : Prop := coderGoesRow.holds Try.pinned (OpenSpec.ofChange coderGoesSpec)

/-- ITS FALSE NEIGHBOUR: 'it returns false'. Refute it at one input. -/
def coderGoesWrong : ChangeSpec := { name := "coderGoes", fn := fun _ => fun
  | [d1, d2] => { results := [.lit (.bool false)], args := [d1, d2] }
  | _ => none }
def CoderGoesWrongFalsely : Prop := coderGoesRow.holds Try.pinned (OpenSpec.ofChange coderGoesWrong)

/-- 'gypsumlaw04.CoderReads': WHATEVER THE INPUT: true; the input reads as it did. -/
def coderReadsSpec : ChangeSpec := { name := "coderReads", fn := fun _ => fun
  | [d1, d2] => { results := [.lit (.bool true)], args := [d1, d2] }
  | _ => none }
def coderReadsRow : OpenClaim := { program := "ytglinpclcmmnbaa", sum := "cbbe159261709d163e40cb306cc9868b9fdcfbd1da1e306eb94686993b62bc32", func := "gypsum/gypsumlaw04.CoderReads", spec := "coderReads", unfollowed := true, recurses := true, apart := false }
def CoderReadsSaid : Prop := coderReadsRow.holds Try.pinned (OpenSpec.ofChange coderReadsSpec)

/-- ITS FALSE NEIGHBOUR: 'it returns false'. Refute it at one input. -/
def coderReadsWrong : ChangeSpec := { name := "coderReads", fn := fun _ => fun
  | [d1, d2] => { results := [.lit (.bool false)], args := [d1, d2] }
  | _ => none }
def CoderReadsWrongFalsely : Prop := coderReadsRow.holds Try.pinned (OpenSpec.ofChange coderReadsWrong)

/-- 'gypsumlaw04.CoderBack': WHATEVER THE INPUT: true; the input reads as it did. -/
def coderBackSpec : ChangeSpec := { name := "coderBack", fn := fun _ => fun
  | [d1, d2] => { results := [.lit (.bool true)], args := [d1, d2] }
  | _ => none }
def coderBackRow : OpenClaim := { program := "ytglinpclcmmnbaa", sum := "cbbe159261709d163e40cb306cc9868b9fdcfbd1da1e306eb94686993b62bc32", func := "gypsum/gypsumlaw04.CoderBack", spec := "coderBack", unfollowed := true, recurses := true, apart := false }
def CoderBackSaid : Prop := coderBackRow.holds Try.pinned (OpenSpec.ofChange coderBackSpec)

/-- ITS FALSE NEIGHBOUR: 'it returns false'. Refute it at one input. -/
def coderBackWrong : ChangeSpec := { name := "coderBack", fn := fun _ => fun
  | [d1, d2] => { results := [.lit (.bool false)], args := [d1, d2] }
  | _ => none }
def CoderBackWrongFalsely : Prop := coderBackRow.holds Try.pinned (OpenSpec.ofChange coderBackWrong)

/-- 'gypsumlaw04.CoderNone': WHATEVER THE INPUT: true; the input reads as it did. -/
def coderNoneSpec : ChangeSpec := { name := "coderNone", fn := fun _ => fun
  | [d1, d2] => { results := [.lit (.bool true)], args := [d1, d2] }
  | _ => none }
def coderNoneRow : OpenClaim := { program := "ytglinpclcmmnbaa", sum := "cbbe159261709d163e40cb306cc9868b9fdcfbd1da1e306eb94686993b62bc32", func := "gypsum/gypsumlaw04.CoderNone", spec := "coderNone", unfollowed := true, recurses := true, apart := false }
def CoderNoneSaid : Prop := coderNoneRow.holds Try.pinned (OpenSpec.ofChange coderNoneSpec)

/-- ITS FALSE NEIGHBOUR: 'it returns false'. Refute it at one input. -/
def coderNoneWrong : ChangeSpec := { name := "coderNone", fn := fun _ => fun
  | [d1, d2] => { results := [.lit (.bool false)], args := [d1, d2] }
  | _ => none }
def CoderNoneWrongFalsely : Prop := coderNoneRow.holds Try.pinned (OpenSpec.ofChange coderNoneWrong)

/-- 'gypsumlaw04.CoderAdapts': WHATEVER THE INPUT: true; the input reads as it did. -/
def coderAdaptsSpec : ChangeSpec := { name := "coderAdapts", fn := fun _ => fun
  | [d] => { results := [.lit (.bool true)], args := [d] }
  | _ => none }
def coderAdaptsRow : OpenClaim := { program := "ytglinpclcmmnbaa", sum := "cbbe159261709d163e40cb306cc9868b9fdcfbd1da1e306eb94686993b62bc32", func := "gypsum/gypsumlaw04.CoderAdapts", spec := "coderAdapts", unfollowed := true, recurses := true, apart := false }
def CoderAdaptsSaid : Prop := coderAdaptsRow.holds Try.pinned (OpenSpec.ofChange coderAdaptsSpec)

/-- ITS FALSE NEIGHBOUR: 'it returns false'. Refute it at one input. -/
def coderAdaptsWrong : ChangeSpec := { name := "coderAdapts", fn := fun _ => fun
  | [d] => { results := [.lit (.bool false)], args := [d] }
  | _ => none }
def CoderAdaptsWrongFalsely : Prop := coderAdaptsRow.holds Try.pinned (OpenSpec.ofChange coderAdaptsWrong)

/- THE SECOND FORM. 'bulk': how many values and letters a reading holds, each counted each time it is reached (what is shared counts as often as it is met; a slice's spare places count too). A statement '..UptoSaid' is the law's where the arguments, and the package variables that the reading takes, are together of bulk at most 1048576: NARROWER than '..Said'. Prove '..Said' where nothing that the law and all that it calls make is longer than what came in: it says more and counts as full. Else prove '..UptoSaid'. A law counts once. -/
mutual
def uptoBulk {H : Type} : DataW H → Nat
  | .lit (.string bytes) => bytes.length + 1
  | .lit _ => 1
  | .nil => 1
  | .ptr d => uptoBulk d + 1
  | .slice elems spare => uptoBulkAll elems + uptoBulkAll spare + 1
  | .agg parts => uptoBulkAll parts + 1
  | .iface _ d => uptoBulk d + 1
  | .map entries => uptoBulkEntries entries + 1
  | .held _ => 1
def uptoBulkAll {H : Type} : List (DataW H) → Nat
  | [] => 0
  | d :: r => uptoBulk d + uptoBulkAll r
def uptoBulkEntries {H : Type} : List (Lit × DataW H) → Nat
  | [] => 0
  | x :: r => uptoBulkEntry x + uptoBulkEntries r
def uptoBulkEntry {H : Type} : Lit × DataW H → Nat
  | (.string bytes, d) => bytes.length + uptoBulk d + 1
  | (_, d) => uptoBulk d + 1
 end
def uptoSmall : (H : Type) → List (DataW H) → Bool := fun _ ds => decide (uptoBulkAll ds ≤ 1048576)
def OpenSpec.upto (s : _root_.Go.ChangeSpec) : _root_.Go.OpenSpec := { _root_.Go.OpenSpec.ofChange s with cond := some uptoSmall }

/-- 'gypsumlaw03.TableMakes', WHERE WHAT IT READS IS OF BULK AT MOST 1048576: true; the input reads as it did. -/
def tableMakesUptoRow : OpenClaim := { program := "ytglinpclcmmnbaa", sum := "cbbe159261709d163e40cb306cc9868b9fdcfbd1da1e306eb94686993b62bc32", func := "gypsum/gypsumlaw03.TableMakes", spec := "tableMakes", unfollowed := true, recurses := true, apart := false, narrowed := true }
def TableMakesUptoSaid : Prop := tableMakesUptoRow.holds Try.pinned (OpenSpec.upto tableMakesSpec)

/-- 'gypsumlaw03.TableBumps', WHERE WHAT IT READS IS OF BULK AT MOST 1048576: true; the input reads as it did. -/
def tableBumpsUptoRow : OpenClaim := { program := "ytglinpclcmmnbaa", sum := "cbbe159261709d163e40cb306cc9868b9fdcfbd1da1e306eb94686993b62bc32", func := "gypsum/gypsumlaw03.TableBumps", spec := "tableBumps", unfollowed := true, recurses := true, apart := false, narrowed := true }
def TableBumpsUptoSaid : Prop := tableBumpsUptoRow.holds Try.pinned (OpenSpec.upto tableBumpsSpec)

/-- 'gypsumlaw03.TableFinds', WHERE WHAT IT READS IS OF BULK AT MOST 1048576: true; the input reads as it did. -/
def tableFindsUptoRow : OpenClaim := { program := "ytglinpclcmmnbaa", sum := "cbbe159261709d163e40cb306cc9868b9fdcfbd1da1e306eb94686993b62bc32", func := "gypsum/gypsumlaw03.TableFinds", spec := "tableFinds", unfollowed := true, recurses := true, apart := false, narrowed := true }
def TableFindsUptoSaid : Prop := tableFindsUptoRow.holds Try.pinned (OpenSpec.upto tableFindsSpec)

/-- 'gypsumlaw03.TableBounds', WHERE WHAT IT READS IS OF BULK AT MOST 1048576: true; the input reads as it did. -/
def tableBoundsUptoRow : OpenClaim := { program := "ytglinpclcmmnbaa", sum := "cbbe159261709d163e40cb306cc9868b9fdcfbd1da1e306eb94686993b62bc32", func := "gypsum/gypsumlaw03.TableBounds", spec := "tableBounds", unfollowed := true, recurses := true, apart := false, narrowed := true }
def TableBoundsUptoSaid : Prop := tableBoundsUptoRow.holds Try.pinned (OpenSpec.upto tableBoundsSpec)

/-- 'gypsumlaw03.TableLimits', WHERE WHAT IT READS IS OF BULK AT MOST 1048576: true; the input reads as it did. -/
def tableLimitsUptoRow : OpenClaim := { program := "ytglinpclcmmnbaa", sum := "cbbe159261709d163e40cb306cc9868b9fdcfbd1da1e306eb94686993b62bc32", func := "gypsum/gypsumlaw03.TableLimits", spec := "tableLimits", unfollowed := true, recurses := true, apart := false, narrowed := true }
def TableLimitsUptoSaid : Prop := tableLimitsUptoRow.holds Try.pinned (OpenSpec.upto tableLimitsSpec)

/-- 'gypsumlaw03.TableMoves', WHERE WHAT IT READS IS OF BULK AT MOST 1048576: true; the input reads as it did. -/
def tableMovesUptoRow : OpenClaim := { program := "ytglinpclcmmnbaa", sum := "cbbe159261709d163e40cb306cc9868b9fdcfbd1da1e306eb94686993b62bc32", func := "gypsum/gypsumlaw03.TableMoves", spec := "tableMoves", unfollowed := true, recurses := true, apart := false, narrowed := true }
def TableMovesUptoSaid : Prop := tableMovesUptoRow.holds Try.pinned (OpenSpec.upto tableMovesSpec)

/-- 'gypsumlaw03.TableClones', WHERE WHAT IT READS IS OF BULK AT MOST 1048576: true; the input reads as it did. -/
def tableClonesUptoRow : OpenClaim := { program := "ytglinpclcmmnbaa", sum := "cbbe159261709d163e40cb306cc9868b9fdcfbd1da1e306eb94686993b62bc32", func := "gypsum/gypsumlaw03.TableClones", spec := "tableClones", unfollowed := true, recurses := true, apart := false, narrowed := true }
def TableClonesUptoSaid : Prop := tableClonesUptoRow.holds Try.pinned (OpenSpec.upto tableClonesSpec)

/-- 'gypsumlaw03.TableNone', WHERE WHAT IT READS IS OF BULK AT MOST 1048576: true; the input reads as it did. -/
def tableNoneUptoRow : OpenClaim := { program := "ytglinpclcmmnbaa", sum := "cbbe159261709d163e40cb306cc9868b9fdcfbd1da1e306eb94686993b62bc32", func := "gypsum/gypsumlaw03.TableNone", spec := "tableNone", unfollowed := true, recurses := true, apart := false, narrowed := true }
def TableNoneUptoSaid : Prop := tableNoneUptoRow.holds Try.pinned (OpenSpec.upto tableNoneSpec)

/-- 'gypsumlaw04.CoderBytes', WHERE WHAT IT READS IS OF BULK AT MOST 1048576: true; the input reads as it did. -/
def coderBytesUptoRow : OpenClaim := { program := "ytglinpclcmmnbaa", sum := "cbbe159261709d163e40cb306cc9868b9fdcfbd1da1e306eb94686993b62bc32", func := "gypsum/gypsumlaw04.CoderBytes", spec := "coderBytes", apart := false, narrowed := true }
def CoderBytesUptoSaid : Prop := coderBytesUptoRow.holds Try.pinned (OpenSpec.upto coderBytesSpec)

/-- 'gypsumlaw04.CoderFew', WHERE WHAT IT READS IS OF BULK AT MOST 1048576: true; the input reads as it did. -/
def coderFewUptoRow : OpenClaim := { program := "ytglinpclcmmnbaa", sum := "cbbe159261709d163e40cb306cc9868b9fdcfbd1da1e306eb94686993b62bc32", func := "gypsum/gypsumlaw04.CoderFew", spec := "coderFew", apart := false, narrowed := true }
def CoderFewUptoSaid : Prop := coderFewUptoRow.holds Try.pinned (OpenSpec.upto coderFewSpec)

/-- 'gypsumlaw04.CoderGoes', WHERE WHAT IT READS IS OF BULK AT MOST 1048576: true; the input reads as it did. -/
def coderGoesUptoRow : OpenClaim := { program := "ytglinpclcmmnbaa", sum := "cbbe159261709d163e40cb306cc9868b9fdcfbd1da1e306eb94686993b62bc32", func := "gypsum/gypsumlaw04.CoderGoes", spec := "coderGoes", apart := false, narrowed := true }
def CoderGoesUptoSaid : Prop := coderGoesUptoRow.holds Try.pinned (OpenSpec.upto coderGoesSpec)

/-- 'gypsumlaw04.CoderReads', WHERE WHAT IT READS IS OF BULK AT MOST 1048576: true; the input reads as it did. -/
def coderReadsUptoRow : OpenClaim := { program := "ytglinpclcmmnbaa", sum := "cbbe159261709d163e40cb306cc9868b9fdcfbd1da1e306eb94686993b62bc32", func := "gypsum/gypsumlaw04.CoderReads", spec := "coderReads", unfollowed := true, recurses := true, apart := false, narrowed := true }
def CoderReadsUptoSaid : Prop := coderReadsUptoRow.holds Try.pinned (OpenSpec.upto coderReadsSpec)

/-- 'gypsumlaw04.CoderBack', WHERE WHAT IT READS IS OF BULK AT MOST 1048576: true; the input reads as it did. -/
def coderBackUptoRow : OpenClaim := { program := "ytglinpclcmmnbaa", sum := "cbbe159261709d163e40cb306cc9868b9fdcfbd1da1e306eb94686993b62bc32", func := "gypsum/gypsumlaw04.CoderBack", spec := "coderBack", unfollowed := true, recurses := true, apart := false, narrowed := true }
def CoderBackUptoSaid : Prop := coderBackUptoRow.holds Try.pinned (OpenSpec.upto coderBackSpec)

/-- 'gypsumlaw04.CoderNone', WHERE WHAT IT READS IS OF BULK AT MOST 1048576: true; the input reads as it did. -/
def coderNoneUptoRow : OpenClaim := { program := "ytglinpclcmmnbaa", sum := "cbbe159261709d163e40cb306cc9868b9fdcfbd1da1e306eb94686993b62bc32", func := "gypsum/gypsumlaw04.CoderNone", spec := "coderNone", unfollowed := true, recurses := true, apart := false, narrowed := true }
def CoderNoneUptoSaid : Prop := coderNoneUptoRow.holds Try.pinned (OpenSpec.upto coderNoneSpec)

/-- 'gypsumlaw04.CoderAdapts', WHERE WHAT IT READS IS OF BULK AT MOST 1048576: true; the input reads as it did. -/
def coderAdaptsUptoRow : OpenClaim := { program := "ytglinpclcmmnbaa", sum := "cbbe159261709d163e40cb306cc9868b9fdcfbd1da1e306eb94686993b62bc32", func := "gypsum/gypsumlaw04.CoderAdapts", spec := "coderAdapts", unfollowed := true, recurses := true, apart := false, narrowed := true }
def CoderAdaptsUptoSaid : Prop := coderAdaptsUptoRow.holds Try.pinned (OpenSpec.upto coderAdaptsSpec)

end Rows
end Go.Proofs.Ytglinpclcmmnbaa
