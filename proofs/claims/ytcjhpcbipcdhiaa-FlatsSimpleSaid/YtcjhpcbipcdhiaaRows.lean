/-
  No cell of these rows narrows 'for every input' (looked for: loops, veiled, ifaces, maps, wideKeys, modest, calm, conditions, laid).
  DERIVED. THE GIVEN ROWS OF THIS SEAT. 19 by the template 'for every input the law returns true; each argument reads behind the call as it read before'; 0 by the template 'total and deterministic' (their statements: YtcjhpcbipcdhiaaTotals.lean).
  GIVEN WITH THE SEED: the statements are not yours to turn. If you find one false, say at which input.
  Laid BY PROGRAM, IN A SANDBOX (cutbox-rows.mjs): the forced cells as the released guide's own fill.sh prints them over the translation dfa830572801cd52… (all of the seat's roots in one cut). By AI agents, Wed Nov 11 2026. No macro, syntax, notation, axiom, sorry.
-/
import Derived.Test.YtcjhpcbipcdhiaaChecked
import GoSem.Claim
import GoSem.ClaimJoined
import GoSem.ClaimMapViews
import Derived.JoinedTies
import Derived.KernelRfl
namespace Go.Proofs.Ytcjhpcbipcdhiaa
/- THE CELL 'sum', in the pinned program and in every row, IS THE sha256 OF THE DUMP (.gsa) THAT YtcjhpcbipcdhiaaProg.lean LOADS. Nothing in Lean hashes anything: it is a label: what it is worth is what the hold of that sum in a sandbox is worth. -/
noncomputable def Try.pinned : Pinned := { name := "ytcjhpcbipcdhiaa", sum := "dfa830572801cd52a9addf0c9e3cba42b7e22b671d1a8cc5c2ec4a5a19cca4d1", checked := Try.checked }
namespace Rows
def none {H : Type} : Left H := { results := [], args := [] }

/-- 'rotakeep.SubConvex': WHATEVER THE INPUT: true; the input reads as it did. -/
def subConvexSpec : ChangeSpec := { name := "subConvex", fn := fun _ => fun
  | [d1, d2, d3, d4, d5] => { results := [.lit (.bool true)], args := [d1, d2, d3, d4, d5] }
  | _ => none }
def subConvexRow : OpenClaim := { program := "ytcjhpcbipcdhiaa", sum := "dfa830572801cd52a9addf0c9e3cba42b7e22b671d1a8cc5c2ec4a5a19cca4d1", func := "rota/rotakeep.SubConvex", spec := "subConvex", unfollowed := true, recurses := true, apart := false }
def SubConvexSaid : Prop := subConvexRow.holds Try.pinned (OpenSpec.ofChange subConvexSpec)

/-- ITS FALSE NEIGHBOUR: 'it returns false'. Refute it at one input. -/
def subConvexWrong : ChangeSpec := { name := "subConvex", fn := fun _ => fun
  | [d1, d2, d3, d4, d5] => { results := [.lit (.bool false)], args := [d1, d2, d3, d4, d5] }
  | _ => none }
def SubConvexWrongFalsely : Prop := subConvexRow.holds Try.pinned (OpenSpec.ofChange subConvexWrong)

/-- 'rotakeep.SubEdmonds': WHATEVER THE INPUT: true; the input reads as it did. -/
def subEdmondsSpec : ChangeSpec := { name := "subEdmonds", fn := fun _ => fun
  | [d1, d2, d3, d4, d5] => { results := [.lit (.bool true)], args := [d1, d2, d3, d4, d5] }
  | _ => none }
def subEdmondsRow : OpenClaim := { program := "ytcjhpcbipcdhiaa", sum := "dfa830572801cd52a9addf0c9e3cba42b7e22b671d1a8cc5c2ec4a5a19cca4d1", func := "rota/rotakeep.SubEdmonds", spec := "subEdmonds", unfollowed := true, recurses := true, apart := false }
def SubEdmondsSaid : Prop := subEdmondsRow.holds Try.pinned (OpenSpec.ofChange subEdmondsSpec)

/-- ITS FALSE NEIGHBOUR: 'it returns false'. Refute it at one input. -/
def subEdmondsWrong : ChangeSpec := { name := "subEdmonds", fn := fun _ => fun
  | [d1, d2, d3, d4, d5] => { results := [.lit (.bool false)], args := [d1, d2, d3, d4, d5] }
  | _ => none }
def SubEdmondsWrongFalsely : Prop := subEdmondsRow.holds Try.pinned (OpenSpec.ofChange subEdmondsWrong)

/-- 'rotakeep.GreedyBest': WHATEVER THE INPUT: true; the input reads as it did. -/
def greedyBestSpec : ChangeSpec := { name := "greedyBest", fn := fun _ => fun
  | [d1, d2, d3] => { results := [.lit (.bool true)], args := [d1, d2, d3] }
  | _ => none }
def greedyBestRow : OpenClaim := { program := "ytcjhpcbipcdhiaa", sum := "dfa830572801cd52a9addf0c9e3cba42b7e22b671d1a8cc5c2ec4a5a19cca4d1", func := "rota/rotakeep.GreedyBest", spec := "greedyBest", unfollowed := true, recurses := true, apart := false }
def GreedyBestSaid : Prop := greedyBestRow.holds Try.pinned (OpenSpec.ofChange greedyBestSpec)

/-- ITS FALSE NEIGHBOUR: 'it returns false'. Refute it at one input. -/
def greedyBestWrong : ChangeSpec := { name := "greedyBest", fn := fun _ => fun
  | [d1, d2, d3] => { results := [.lit (.bool false)], args := [d1, d2, d3] }
  | _ => none }
def GreedyBestWrongFalsely : Prop := greedyBestRow.holds Try.pinned (OpenSpec.ofChange greedyBestWrong)

/-- 'rotakeep.GreedyDual': WHATEVER THE INPUT: true; the input reads as it did. -/
def greedyDualSpec : ChangeSpec := { name := "greedyDual", fn := fun _ => fun
  | [d1, d2] => { results := [.lit (.bool true)], args := [d1, d2] }
  | _ => none }
def greedyDualRow : OpenClaim := { program := "ytcjhpcbipcdhiaa", sum := "dfa830572801cd52a9addf0c9e3cba42b7e22b671d1a8cc5c2ec4a5a19cca4d1", func := "rota/rotakeep.GreedyDual", spec := "greedyDual", unfollowed := true, recurses := true, apart := false }
def GreedyDualSaid : Prop := greedyDualRow.holds Try.pinned (OpenSpec.ofChange greedyDualSpec)

/-- ITS FALSE NEIGHBOUR: 'it returns false'. Refute it at one input. -/
def greedyDualWrong : ChangeSpec := { name := "greedyDual", fn := fun _ => fun
  | [d1, d2] => { results := [.lit (.bool false)], args := [d1, d2] }
  | _ => none }
def GreedyDualWrongFalsely : Prop := greedyDualRow.holds Try.pinned (OpenSpec.ofChange greedyDualWrong)

/-- 'rotakeep.ValuesWeights': WHATEVER THE INPUT: true; the input reads as it did. -/
def valuesWeightsSpec : ChangeSpec := { name := "valuesWeights", fn := fun _ => fun
  | [d1, d2] => { results := [.lit (.bool true)], args := [d1, d2] }
  | _ => none }
def valuesWeightsRow : OpenClaim := { program := "ytcjhpcbipcdhiaa", sum := "dfa830572801cd52a9addf0c9e3cba42b7e22b671d1a8cc5c2ec4a5a19cca4d1", func := "rota/rotakeep.ValuesWeights", spec := "valuesWeights", unfollowed := true, recurses := true, apart := false }
def ValuesWeightsSaid : Prop := valuesWeightsRow.holds Try.pinned (OpenSpec.ofChange valuesWeightsSpec)

/-- ITS FALSE NEIGHBOUR: 'it returns false'. Refute it at one input. -/
def valuesWeightsWrong : ChangeSpec := { name := "valuesWeights", fn := fun _ => fun
  | [d1, d2] => { results := [.lit (.bool false)], args := [d1, d2] }
  | _ => none }
def ValuesWeightsWrongFalsely : Prop := valuesWeightsRow.holds Try.pinned (OpenSpec.ofChange valuesWeightsWrong)

/-- 'rotakeep.MinorsFree': WHATEVER THE INPUT: true; the input reads as it did. -/
def minorsFreeSpec : ChangeSpec := { name := "minorsFree", fn := fun _ => fun
  | [d1, d2] => { results := [.lit (.bool true)], args := [d1, d2] }
  | _ => none }
def minorsFreeRow : OpenClaim := { program := "ytcjhpcbipcdhiaa", sum := "dfa830572801cd52a9addf0c9e3cba42b7e22b671d1a8cc5c2ec4a5a19cca4d1", func := "rota/rotakeep.MinorsFree", spec := "minorsFree", unfollowed := true, recurses := true, apart := false }
def MinorsFreeSaid : Prop := minorsFreeRow.holds Try.pinned (OpenSpec.ofChange minorsFreeSpec)

/-- ITS FALSE NEIGHBOUR: 'it returns false'. Refute it at one input. -/
def minorsFreeWrong : ChangeSpec := { name := "minorsFree", fn := fun _ => fun
  | [d1, d2] => { results := [.lit (.bool false)], args := [d1, d2] }
  | _ => none }
def MinorsFreeWrongFalsely : Prop := minorsFreeRow.holds Try.pinned (OpenSpec.ofChange minorsFreeWrong)

/-- 'rotakeep.MinorsParts': WHATEVER THE INPUT: true; the input reads as it did. -/
def minorsPartsSpec : ChangeSpec := { name := "minorsParts", fn := fun _ => fun
  | [d1, d2] => { results := [.lit (.bool true)], args := [d1, d2] }
  | _ => none }
def minorsPartsRow : OpenClaim := { program := "ytcjhpcbipcdhiaa", sum := "dfa830572801cd52a9addf0c9e3cba42b7e22b671d1a8cc5c2ec4a5a19cca4d1", func := "rota/rotakeep.MinorsParts", spec := "minorsParts", unfollowed := true, recurses := true, apart := false }
def MinorsPartsSaid : Prop := minorsPartsRow.holds Try.pinned (OpenSpec.ofChange minorsPartsSpec)

/-- ITS FALSE NEIGHBOUR: 'it returns false'. Refute it at one input. -/
def minorsPartsWrong : ChangeSpec := { name := "minorsParts", fn := fun _ => fun
  | [d1, d2] => { results := [.lit (.bool false)], args := [d1, d2] }
  | _ => none }
def MinorsPartsWrongFalsely : Prop := minorsPartsRow.holds Try.pinned (OpenSpec.ofChange minorsPartsWrong)

/-- 'rotakeep.MinorsTutte': WHATEVER THE INPUT: true; the input reads as it did. -/
def minorsTutteSpec : ChangeSpec := { name := "minorsTutte", fn := fun _ => fun
  | [d] => { results := [.lit (.bool true)], args := [d] }
  | _ => none }
def minorsTutteRow : OpenClaim := { program := "ytcjhpcbipcdhiaa", sum := "dfa830572801cd52a9addf0c9e3cba42b7e22b671d1a8cc5c2ec4a5a19cca4d1", func := "rota/rotakeep.MinorsTutte", spec := "minorsTutte", unfollowed := true, recurses := true, apart := false }
def MinorsTutteSaid : Prop := minorsTutteRow.holds Try.pinned (OpenSpec.ofChange minorsTutteSpec)

/-- ITS FALSE NEIGHBOUR: 'it returns false'. Refute it at one input. -/
def minorsTutteWrong : ChangeSpec := { name := "minorsTutte", fn := fun _ => fun
  | [d] => { results := [.lit (.bool false)], args := [d] }
  | _ => none }
def MinorsTutteWrongFalsely : Prop := minorsTutteRow.holds Try.pinned (OpenSpec.ofChange minorsTutteWrong)

/-- 'rotakeep.JoinRank': WHATEVER THE INPUT: true; the input reads as it did. -/
def joinRankSpec : ChangeSpec := { name := "joinRank", fn := fun _ => fun
  | [d1, d2] => { results := [.lit (.bool true)], args := [d1, d2] }
  | _ => none }
def joinRankRow : OpenClaim := { program := "ytcjhpcbipcdhiaa", sum := "dfa830572801cd52a9addf0c9e3cba42b7e22b671d1a8cc5c2ec4a5a19cca4d1", func := "rota/rotakeep.JoinRank", spec := "joinRank", recurses := true, apart := false }
def JoinRankSaid : Prop := joinRankRow.holds Try.pinned (OpenSpec.ofChange joinRankSpec)

/-- ITS FALSE NEIGHBOUR: 'it returns false'. Refute it at one input. -/
def joinRankWrong : ChangeSpec := { name := "joinRank", fn := fun _ => fun
  | [d1, d2] => { results := [.lit (.bool false)], args := [d1, d2] }
  | _ => none }
def JoinRankWrongFalsely : Prop := joinRankRow.holds Try.pinned (OpenSpec.ofChange joinRankWrong)

/-- 'rotakeep.SetsKruskal': WHATEVER THE INPUT: true; the input reads as it did. -/
def setsKruskalSpec : ChangeSpec := { name := "setsKruskal", fn := fun _ => fun
  | [d1, d2, d3] => { results := [.lit (.bool true)], args := [d1, d2, d3] }
  | _ => none }
def setsKruskalRow : OpenClaim := { program := "ytcjhpcbipcdhiaa", sum := "dfa830572801cd52a9addf0c9e3cba42b7e22b671d1a8cc5c2ec4a5a19cca4d1", func := "rota/rotakeep.SetsKruskal", spec := "setsKruskal", unfollowed := true, recurses := true, apart := false }
def SetsKruskalSaid : Prop := setsKruskalRow.holds Try.pinned (OpenSpec.ofChange setsKruskalSpec)

/-- ITS FALSE NEIGHBOUR: 'it returns false'. Refute it at one input. -/
def setsKruskalWrong : ChangeSpec := { name := "setsKruskal", fn := fun _ => fun
  | [d1, d2, d3] => { results := [.lit (.bool false)], args := [d1, d2, d3] }
  | _ => none }
def SetsKruskalWrongFalsely : Prop := setsKruskalRow.holds Try.pinned (OpenSpec.ofChange setsKruskalWrong)

/-- 'rotakeep.GreedySwap': WHATEVER THE INPUT: true; the input reads as it did. -/
def greedySwapSpec : ChangeSpec := { name := "greedySwap", fn := fun _ => fun
  | [d1, d2, d3, d4] => { results := [.lit (.bool true)], args := [d1, d2, d3, d4] }
  | _ => none }
def greedySwapRow : OpenClaim := { program := "ytcjhpcbipcdhiaa", sum := "dfa830572801cd52a9addf0c9e3cba42b7e22b671d1a8cc5c2ec4a5a19cca4d1", func := "rota/rotakeep.GreedySwap", spec := "greedySwap", unfollowed := true, recurses := true, apart := false }
def GreedySwapSaid : Prop := greedySwapRow.holds Try.pinned (OpenSpec.ofChange greedySwapSpec)

/-- ITS FALSE NEIGHBOUR: 'it returns false'. Refute it at one input. -/
def greedySwapWrong : ChangeSpec := { name := "greedySwap", fn := fun _ => fun
  | [d1, d2, d3, d4] => { results := [.lit (.bool false)], args := [d1, d2, d3, d4] }
  | _ => none }
def GreedySwapWrongFalsely : Prop := greedySwapRow.holds Try.pinned (OpenSpec.ofChange greedySwapWrong)

/-- 'rotakeep.FlatsSimple': WHATEVER THE INPUT: true; the input reads as it did. -/
def flatsSimpleSpec : ChangeSpec := { name := "flatsSimple", fn := fun _ => fun
  | [d] => { results := [.lit (.bool true)], args := [d] }
  | _ => none }
def flatsSimpleRow : OpenClaim := { program := "ytcjhpcbipcdhiaa", sum := "dfa830572801cd52a9addf0c9e3cba42b7e22b671d1a8cc5c2ec4a5a19cca4d1", func := "rota/rotakeep.FlatsSimple", spec := "flatsSimple", unfollowed := true, recurses := true, apart := false }
def FlatsSimpleSaid : Prop := flatsSimpleRow.holds Try.pinned (OpenSpec.ofChange flatsSimpleSpec)

/-- ITS FALSE NEIGHBOUR: 'it returns false'. Refute it at one input. -/
def flatsSimpleWrong : ChangeSpec := { name := "flatsSimple", fn := fun _ => fun
  | [d] => { results := [.lit (.bool false)], args := [d] }
  | _ => none }
def FlatsSimpleWrongFalsely : Prop := flatsSimpleRow.holds Try.pinned (OpenSpec.ofChange flatsSimpleWrong)

/-- 'rotakeep.ComplexShelled': WHATEVER THE INPUT: true; the input reads as it did. -/
def complexShelledSpec : ChangeSpec := { name := "complexShelled", fn := fun _ => fun
  | [d1, d2, d3] => { results := [.lit (.bool true)], args := [d1, d2, d3] }
  | _ => none }
def complexShelledRow : OpenClaim := { program := "ytcjhpcbipcdhiaa", sum := "dfa830572801cd52a9addf0c9e3cba42b7e22b671d1a8cc5c2ec4a5a19cca4d1", func := "rota/rotakeep.ComplexShelled", spec := "complexShelled", unfollowed := true, recurses := true, apart := false }
def ComplexShelledSaid : Prop := complexShelledRow.holds Try.pinned (OpenSpec.ofChange complexShelledSpec)

/-- ITS FALSE NEIGHBOUR: 'it returns false'. Refute it at one input. -/
def complexShelledWrong : ChangeSpec := { name := "complexShelled", fn := fun _ => fun
  | [d1, d2, d3] => { results := [.lit (.bool false)], args := [d1, d2, d3] }
  | _ => none }
def ComplexShelledWrongFalsely : Prop := complexShelledRow.holds Try.pinned (OpenSpec.ofChange complexShelledWrong)

/-- 'rotakeep.KindsUniform': WHATEVER THE INPUT: true; the input reads as it did. -/
def kindsUniformSpec : ChangeSpec := { name := "kindsUniform", fn := fun _ => fun
  | [d1, d2] => { results := [.lit (.bool true)], args := [d1, d2] }
  | _ => none }
def kindsUniformRow : OpenClaim := { program := "ytcjhpcbipcdhiaa", sum := "dfa830572801cd52a9addf0c9e3cba42b7e22b671d1a8cc5c2ec4a5a19cca4d1", func := "rota/rotakeep.KindsUniform", spec := "kindsUniform", unfollowed := true, recurses := true, apart := false }
def KindsUniformSaid : Prop := kindsUniformRow.holds Try.pinned (OpenSpec.ofChange kindsUniformSpec)

/-- ITS FALSE NEIGHBOUR: 'it returns false'. Refute it at one input. -/
def kindsUniformWrong : ChangeSpec := { name := "kindsUniform", fn := fun _ => fun
  | [d1, d2] => { results := [.lit (.bool false)], args := [d1, d2] }
  | _ => none }
def KindsUniformWrongFalsely : Prop := kindsUniformRow.holds Try.pinned (OpenSpec.ofChange kindsUniformWrong)

/-- 'rotakeep.FlatsBeta': WHATEVER THE INPUT: true; the input reads as it did. -/
def flatsBetaSpec : ChangeSpec := { name := "flatsBeta", fn := fun _ => fun
  | [d] => { results := [.lit (.bool true)], args := [d] }
  | _ => none }
def flatsBetaRow : OpenClaim := { program := "ytcjhpcbipcdhiaa", sum := "dfa830572801cd52a9addf0c9e3cba42b7e22b671d1a8cc5c2ec4a5a19cca4d1", func := "rota/rotakeep.FlatsBeta", spec := "flatsBeta", unfollowed := true, recurses := true, apart := false }
def FlatsBetaSaid : Prop := flatsBetaRow.holds Try.pinned (OpenSpec.ofChange flatsBetaSpec)

/-- ITS FALSE NEIGHBOUR: 'it returns false'. Refute it at one input. -/
def flatsBetaWrong : ChangeSpec := { name := "flatsBeta", fn := fun _ => fun
  | [d] => { results := [.lit (.bool false)], args := [d] }
  | _ => none }
def FlatsBetaWrongFalsely : Prop := flatsBetaRow.holds Try.pinned (OpenSpec.ofChange flatsBetaWrong)

/-- 'rotakeep.ComplexKruskal': WHATEVER THE INPUT: true; the input reads as it did. -/
def complexKruskalSpec : ChangeSpec := { name := "complexKruskal", fn := fun _ => fun
  | [d1, d2] => { results := [.lit (.bool true)], args := [d1, d2] }
  | _ => none }
def complexKruskalRow : OpenClaim := { program := "ytcjhpcbipcdhiaa", sum := "dfa830572801cd52a9addf0c9e3cba42b7e22b671d1a8cc5c2ec4a5a19cca4d1", func := "rota/rotakeep.ComplexKruskal", spec := "complexKruskal", unfollowed := true, recurses := true, apart := false }
def ComplexKruskalSaid : Prop := complexKruskalRow.holds Try.pinned (OpenSpec.ofChange complexKruskalSpec)

/-- ITS FALSE NEIGHBOUR: 'it returns false'. Refute it at one input. -/
def complexKruskalWrong : ChangeSpec := { name := "complexKruskal", fn := fun _ => fun
  | [d1, d2] => { results := [.lit (.bool false)], args := [d1, d2] }
  | _ => none }
def ComplexKruskalWrongFalsely : Prop := complexKruskalRow.holds Try.pinned (OpenSpec.ofChange complexKruskalWrong)

/-- 'rotakeep.MeetEdmonds': WHATEVER THE INPUT: true; the input reads as it did. -/
def meetEdmondsSpec : ChangeSpec := { name := "meetEdmonds", fn := fun _ => fun
  | [d1, d2, d3] => { results := [.lit (.bool true)], args := [d1, d2, d3] }
  | _ => none }
def meetEdmondsRow : OpenClaim := { program := "ytcjhpcbipcdhiaa", sum := "dfa830572801cd52a9addf0c9e3cba42b7e22b671d1a8cc5c2ec4a5a19cca4d1", func := "rota/rotakeep.MeetEdmonds", spec := "meetEdmonds", unfollowed := true, recurses := true, apart := false }
def MeetEdmondsSaid : Prop := meetEdmondsRow.holds Try.pinned (OpenSpec.ofChange meetEdmondsSpec)

/-- ITS FALSE NEIGHBOUR: 'it returns false'. Refute it at one input. -/
def meetEdmondsWrong : ChangeSpec := { name := "meetEdmonds", fn := fun _ => fun
  | [d1, d2, d3] => { results := [.lit (.bool false)], args := [d1, d2, d3] }
  | _ => none }
def MeetEdmondsWrongFalsely : Prop := meetEdmondsRow.holds Try.pinned (OpenSpec.ofChange meetEdmondsWrong)

/-- 'rotakeep.MeetSame': WHATEVER THE INPUT: true; the input reads as it did. -/
def meetSameSpec : ChangeSpec := { name := "meetSame", fn := fun _ => fun
  | [d1, d2, d3] => { results := [.lit (.bool true)], args := [d1, d2, d3] }
  | _ => none }
def meetSameRow : OpenClaim := { program := "ytcjhpcbipcdhiaa", sum := "dfa830572801cd52a9addf0c9e3cba42b7e22b671d1a8cc5c2ec4a5a19cca4d1", func := "rota/rotakeep.MeetSame", spec := "meetSame", unfollowed := true, recurses := true, apart := false }
def MeetSameSaid : Prop := meetSameRow.holds Try.pinned (OpenSpec.ofChange meetSameSpec)

/-- ITS FALSE NEIGHBOUR: 'it returns false'. Refute it at one input. -/
def meetSameWrong : ChangeSpec := { name := "meetSame", fn := fun _ => fun
  | [d1, d2, d3] => { results := [.lit (.bool false)], args := [d1, d2, d3] }
  | _ => none }
def MeetSameWrongFalsely : Prop := meetSameRow.holds Try.pinned (OpenSpec.ofChange meetSameWrong)

/-- 'rotakeep.MeetUnion': WHATEVER THE INPUT: true; the input reads as it did. -/
def meetUnionSpec : ChangeSpec := { name := "meetUnion", fn := fun _ => fun
  | [d1, d2] => { results := [.lit (.bool true)], args := [d1, d2] }
  | _ => none }
def meetUnionRow : OpenClaim := { program := "ytcjhpcbipcdhiaa", sum := "dfa830572801cd52a9addf0c9e3cba42b7e22b671d1a8cc5c2ec4a5a19cca4d1", func := "rota/rotakeep.MeetUnion", spec := "meetUnion", unfollowed := true, recurses := true, apart := false }
def MeetUnionSaid : Prop := meetUnionRow.holds Try.pinned (OpenSpec.ofChange meetUnionSpec)

/-- ITS FALSE NEIGHBOUR: 'it returns false'. Refute it at one input. -/
def meetUnionWrong : ChangeSpec := { name := "meetUnion", fn := fun _ => fun
  | [d1, d2] => { results := [.lit (.bool false)], args := [d1, d2] }
  | _ => none }
def MeetUnionWrongFalsely : Prop := meetUnionRow.holds Try.pinned (OpenSpec.ofChange meetUnionWrong)

/- THE SECOND FORM. 'bulk': how many values and letters a reading holds, each counted each time it is reached (what is shared counts as often as it is met; a slice's spare places count too). A statement '..UptoSaid' is the law's where the arguments, and the package variables that the reading takes, are together of bulk at most 1048576: NARROWER than '..Said'. Prove '..Said' where nothing that the law and all that it calls make is longer than what came in: it says more and counts as full. Else prove '..UptoSaid'. A law counts once. -/
mutual
def uptoBulk {H : Type} : DataW H → Nat
  | .lit (.string bytes) => bytes.length + 1
  | .lit _ => 1
  | .nil => 1
  | .ptr d => uptoBulk d + 1
  | .slice elems spare => uptoBulkAll elems + uptoBulkAll spare + 1
  | .agg parts => uptoBulkAll parts + 1
  | .iface _ d => uptoBulk d + 1
  | .map entries => uptoBulkEntries entries + 1
  | .held _ => 1
def uptoBulkAll {H : Type} : List (DataW H) → Nat
  | [] => 0
  | d :: r => uptoBulk d + uptoBulkAll r
def uptoBulkEntries {H : Type} : List (Lit × DataW H) → Nat
  | [] => 0
  | x :: r => uptoBulkEntry x + uptoBulkEntries r
def uptoBulkEntry {H : Type} : Lit × DataW H → Nat
  | (.string bytes, d) => bytes.length + uptoBulk d + 1
  | (_, d) => uptoBulk d + 1
 end
def uptoSmall : (H : Type) → List (DataW H) → Bool := fun _ ds => decide (uptoBulkAll ds ≤ 1048576)
def OpenSpec.upto (s : _root_.Go.ChangeSpec) : _root_.Go.OpenSpec := { _root_.Go.OpenSpec.ofChange s with cond := some uptoSmall }

/-- 'rotakeep.SubConvex', WHERE WHAT IT READS IS OF BULK AT MOST 1048576: true; the input reads as it did. -/
def subConvexUptoRow : OpenClaim := { program := "ytcjhpcbipcdhiaa", sum := "dfa830572801cd52a9addf0c9e3cba42b7e22b671d1a8cc5c2ec4a5a19cca4d1", func := "rota/rotakeep.SubConvex", spec := "subConvex", unfollowed := true, recurses := true, apart := false, narrowed := true }
def SubConvexUptoSaid : Prop := subConvexUptoRow.holds Try.pinned (OpenSpec.upto subConvexSpec)

/-- 'rotakeep.SubEdmonds', WHERE WHAT IT READS IS OF BULK AT MOST 1048576: true; the input reads as it did. -/
def subEdmondsUptoRow : OpenClaim := { program := "ytcjhpcbipcdhiaa", sum := "dfa830572801cd52a9addf0c9e3cba42b7e22b671d1a8cc5c2ec4a5a19cca4d1", func := "rota/rotakeep.SubEdmonds", spec := "subEdmonds", unfollowed := true, recurses := true, apart := false, narrowed := true }
def SubEdmondsUptoSaid : Prop := subEdmondsUptoRow.holds Try.pinned (OpenSpec.upto subEdmondsSpec)

/-- 'rotakeep.GreedyBest', WHERE WHAT IT READS IS OF BULK AT MOST 1048576: true; the input reads as it did. -/
def greedyBestUptoRow : OpenClaim := { program := "ytcjhpcbipcdhiaa", sum := "dfa830572801cd52a9addf0c9e3cba42b7e22b671d1a8cc5c2ec4a5a19cca4d1", func := "rota/rotakeep.GreedyBest", spec := "greedyBest", unfollowed := true, recurses := true, apart := false, narrowed := true }
def GreedyBestUptoSaid : Prop := greedyBestUptoRow.holds Try.pinned (OpenSpec.upto greedyBestSpec)

/-- 'rotakeep.GreedyDual', WHERE WHAT IT READS IS OF BULK AT MOST 1048576: true; the input reads as it did. -/
def greedyDualUptoRow : OpenClaim := { program := "ytcjhpcbipcdhiaa", sum := "dfa830572801cd52a9addf0c9e3cba42b7e22b671d1a8cc5c2ec4a5a19cca4d1", func := "rota/rotakeep.GreedyDual", spec := "greedyDual", unfollowed := true, recurses := true, apart := false, narrowed := true }
def GreedyDualUptoSaid : Prop := greedyDualUptoRow.holds Try.pinned (OpenSpec.upto greedyDualSpec)

/-- 'rotakeep.ValuesWeights', WHERE WHAT IT READS IS OF BULK AT MOST 1048576: true; the input reads as it did. -/
def valuesWeightsUptoRow : OpenClaim := { program := "ytcjhpcbipcdhiaa", sum := "dfa830572801cd52a9addf0c9e3cba42b7e22b671d1a8cc5c2ec4a5a19cca4d1", func := "rota/rotakeep.ValuesWeights", spec := "valuesWeights", unfollowed := true, recurses := true, apart := false, narrowed := true }
def ValuesWeightsUptoSaid : Prop := valuesWeightsUptoRow.holds Try.pinned (OpenSpec.upto valuesWeightsSpec)

/-- 'rotakeep.MinorsFree', WHERE WHAT IT READS IS OF BULK AT MOST 1048576: true; the input reads as it did. -/
def minorsFreeUptoRow : OpenClaim := { program := "ytcjhpcbipcdhiaa", sum := "dfa830572801cd52a9addf0c9e3cba42b7e22b671d1a8cc5c2ec4a5a19cca4d1", func := "rota/rotakeep.MinorsFree", spec := "minorsFree", unfollowed := true, recurses := true, apart := false, narrowed := true }
def MinorsFreeUptoSaid : Prop := minorsFreeUptoRow.holds Try.pinned (OpenSpec.upto minorsFreeSpec)

/-- 'rotakeep.MinorsParts', WHERE WHAT IT READS IS OF BULK AT MOST 1048576: true; the input reads as it did. -/
def minorsPartsUptoRow : OpenClaim := { program := "ytcjhpcbipcdhiaa", sum := "dfa830572801cd52a9addf0c9e3cba42b7e22b671d1a8cc5c2ec4a5a19cca4d1", func := "rota/rotakeep.MinorsParts", spec := "minorsParts", unfollowed := true, recurses := true, apart := false, narrowed := true }
def MinorsPartsUptoSaid : Prop := minorsPartsUptoRow.holds Try.pinned (OpenSpec.upto minorsPartsSpec)

/-- 'rotakeep.MinorsTutte', WHERE WHAT IT READS IS OF BULK AT MOST 1048576: true; the input reads as it did. -/
def minorsTutteUptoRow : OpenClaim := { program := "ytcjhpcbipcdhiaa", sum := "dfa830572801cd52a9addf0c9e3cba42b7e22b671d1a8cc5c2ec4a5a19cca4d1", func := "rota/rotakeep.MinorsTutte", spec := "minorsTutte", unfollowed := true, recurses := true, apart := false, narrowed := true }
def MinorsTutteUptoSaid : Prop := minorsTutteUptoRow.holds Try.pinned (OpenSpec.upto minorsTutteSpec)

/-- 'rotakeep.JoinRank', WHERE WHAT IT READS IS OF BULK AT MOST 1048576: true; the input reads as it did. -/
def joinRankUptoRow : OpenClaim := { program := "ytcjhpcbipcdhiaa", sum := "dfa830572801cd52a9addf0c9e3cba42b7e22b671d1a8cc5c2ec4a5a19cca4d1", func := "rota/rotakeep.JoinRank", spec := "joinRank", recurses := true, apart := false, narrowed := true }
def JoinRankUptoSaid : Prop := joinRankUptoRow.holds Try.pinned (OpenSpec.upto joinRankSpec)

/-- 'rotakeep.SetsKruskal', WHERE WHAT IT READS IS OF BULK AT MOST 1048576: true; the input reads as it did. -/
def setsKruskalUptoRow : OpenClaim := { program := "ytcjhpcbipcdhiaa", sum := "dfa830572801cd52a9addf0c9e3cba42b7e22b671d1a8cc5c2ec4a5a19cca4d1", func := "rota/rotakeep.SetsKruskal", spec := "setsKruskal", unfollowed := true, recurses := true, apart := false, narrowed := true }
def SetsKruskalUptoSaid : Prop := setsKruskalUptoRow.holds Try.pinned (OpenSpec.upto setsKruskalSpec)

/-- 'rotakeep.GreedySwap', WHERE WHAT IT READS IS OF BULK AT MOST 1048576: true; the input reads as it did. -/
def greedySwapUptoRow : OpenClaim := { program := "ytcjhpcbipcdhiaa", sum := "dfa830572801cd52a9addf0c9e3cba42b7e22b671d1a8cc5c2ec4a5a19cca4d1", func := "rota/rotakeep.GreedySwap", spec := "greedySwap", unfollowed := true, recurses := true, apart := false, narrowed := true }
def GreedySwapUptoSaid : Prop := greedySwapUptoRow.holds Try.pinned (OpenSpec.upto greedySwapSpec)

/-- 'rotakeep.FlatsSimple', WHERE WHAT IT READS IS OF BULK AT MOST 1048576: true; the input reads as it did. -/
def flatsSimpleUptoRow : OpenClaim := { program := "ytcjhpcbipcdhiaa", sum := "dfa830572801cd52a9addf0c9e3cba42b7e22b671d1a8cc5c2ec4a5a19cca4d1", func := "rota/rotakeep.FlatsSimple", spec := "flatsSimple", unfollowed := true, recurses := true, apart := false, narrowed := true }
def FlatsSimpleUptoSaid : Prop := flatsSimpleUptoRow.holds Try.pinned (OpenSpec.upto flatsSimpleSpec)

/-- 'rotakeep.ComplexShelled', WHERE WHAT IT READS IS OF BULK AT MOST 1048576: true; the input reads as it did. -/
def complexShelledUptoRow : OpenClaim := { program := "ytcjhpcbipcdhiaa", sum := "dfa830572801cd52a9addf0c9e3cba42b7e22b671d1a8cc5c2ec4a5a19cca4d1", func := "rota/rotakeep.ComplexShelled", spec := "complexShelled", unfollowed := true, recurses := true, apart := false, narrowed := true }
def ComplexShelledUptoSaid : Prop := complexShelledUptoRow.holds Try.pinned (OpenSpec.upto complexShelledSpec)

/-- 'rotakeep.KindsUniform', WHERE WHAT IT READS IS OF BULK AT MOST 1048576: true; the input reads as it did. -/
def kindsUniformUptoRow : OpenClaim := { program := "ytcjhpcbipcdhiaa", sum := "dfa830572801cd52a9addf0c9e3cba42b7e22b671d1a8cc5c2ec4a5a19cca4d1", func := "rota/rotakeep.KindsUniform", spec := "kindsUniform", unfollowed := true, recurses := true, apart := false, narrowed := true }
def KindsUniformUptoSaid : Prop := kindsUniformUptoRow.holds Try.pinned (OpenSpec.upto kindsUniformSpec)

/-- 'rotakeep.FlatsBeta', WHERE WHAT IT READS IS OF BULK AT MOST 1048576: true; the input reads as it did. -/
def flatsBetaUptoRow : OpenClaim := { program := "ytcjhpcbipcdhiaa", sum := "dfa830572801cd52a9addf0c9e3cba42b7e22b671d1a8cc5c2ec4a5a19cca4d1", func := "rota/rotakeep.FlatsBeta", spec := "flatsBeta", unfollowed := true, recurses := true, apart := false, narrowed := true }
def FlatsBetaUptoSaid : Prop := flatsBetaUptoRow.holds Try.pinned (OpenSpec.upto flatsBetaSpec)

/-- 'rotakeep.ComplexKruskal', WHERE WHAT IT READS IS OF BULK AT MOST 1048576: true; the input reads as it did. -/
def complexKruskalUptoRow : OpenClaim := { program := "ytcjhpcbipcdhiaa", sum := "dfa830572801cd52a9addf0c9e3cba42b7e22b671d1a8cc5c2ec4a5a19cca4d1", func := "rota/rotakeep.ComplexKruskal", spec := "complexKruskal", unfollowed := true, recurses := true, apart := false, narrowed := true }
def ComplexKruskalUptoSaid : Prop := complexKruskalUptoRow.holds Try.pinned (OpenSpec.upto complexKruskalSpec)

/-- 'rotakeep.MeetEdmonds', WHERE WHAT IT READS IS OF BULK AT MOST 1048576: true; the input reads as it did. -/
def meetEdmondsUptoRow : OpenClaim := { program := "ytcjhpcbipcdhiaa", sum := "dfa830572801cd52a9addf0c9e3cba42b7e22b671d1a8cc5c2ec4a5a19cca4d1", func := "rota/rotakeep.MeetEdmonds", spec := "meetEdmonds", unfollowed := true, recurses := true, apart := false, narrowed := true }
def MeetEdmondsUptoSaid : Prop := meetEdmondsUptoRow.holds Try.pinned (OpenSpec.upto meetEdmondsSpec)

/-- 'rotakeep.MeetSame', WHERE WHAT IT READS IS OF BULK AT MOST 1048576: true; the input reads as it did. -/
def meetSameUptoRow : OpenClaim := { program := "ytcjhpcbipcdhiaa", sum := "dfa830572801cd52a9addf0c9e3cba42b7e22b671d1a8cc5c2ec4a5a19cca4d1", func := "rota/rotakeep.MeetSame", spec := "meetSame", unfollowed := true, recurses := true, apart := false, narrowed := true }
def MeetSameUptoSaid : Prop := meetSameUptoRow.holds Try.pinned (OpenSpec.upto meetSameSpec)

/-- 'rotakeep.MeetUnion', WHERE WHAT IT READS IS OF BULK AT MOST 1048576: true; the input reads as it did. -/
def meetUnionUptoRow : OpenClaim := { program := "ytcjhpcbipcdhiaa", sum := "dfa830572801cd52a9addf0c9e3cba42b7e22b671d1a8cc5c2ec4a5a19cca4d1", func := "rota/rotakeep.MeetUnion", spec := "meetUnion", unfollowed := true, recurses := true, apart := false, narrowed := true }
def MeetUnionUptoSaid : Prop := meetUnionUptoRow.holds Try.pinned (OpenSpec.upto meetUnionSpec)

end Rows
end Go.Proofs.Ytcjhpcbipcdhiaa
