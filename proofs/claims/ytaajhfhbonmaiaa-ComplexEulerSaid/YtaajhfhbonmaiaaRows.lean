/-
  No cell of these rows narrows 'for every input' (looked for: loops, veiled, ifaces, maps, wideKeys, modest, calm, conditions, laid).
  DERIVED. THE GIVEN ROWS OF THIS SEAT. 12 by the template 'for every input the law returns true; each argument reads behind the call as it read before'; 0 by the template 'total and deterministic' (their statements: YtaajhfhbonmaiaaTotals.lean).
  GIVEN WITH THE SEED: the statements are not yours to turn. If you find one false, say at which input.
  Laid BY PROGRAM, IN A SANDBOX (cutbox-rows.mjs): the forced cells as the released guide's own fill.sh prints them over the translation 80a9fa4dcaee84c0… (all of the seat's roots in one cut). By AI agents, Wed Nov 11 2026. No macro, syntax, notation, axiom, sorry.
-/
import Derived.Test.YtaajhfhbonmaiaaChecked
import GoSem.Claim
import GoSem.ClaimJoined
import GoSem.ClaimMapViews
import Derived.JoinedTies
import Derived.KernelRfl
namespace Go.Proofs.Ytaajhfhbonmaiaa
/- THE CELL 'sum', in the pinned program and in every row, IS THE sha256 OF THE DUMP (.gsa) THAT YtaajhfhbonmaiaaProg.lean LOADS. Nothing in Lean hashes anything: it is a label: what it is worth is what the hold of that sum in a sandbox is worth. -/
noncomputable def Try.pinned : Pinned := { name := "ytaajhfhbonmaiaa", sum := "80a9fa4dcaee84c0c7e2f52189f4134b949b5a98983a2c267427069b7354c52c", checked := Try.checked }
namespace Rows
def none {H : Type} : Left H := { results := [], args := [] }

/-- 'rotakeep.FlatsWhitney': WHATEVER THE INPUT: true; the input reads as it did. -/
def flatsWhitneySpec : ChangeSpec := { name := "flatsWhitney", fn := fun _ => fun
  | [d] => { results := [.lit (.bool true)], args := [d] }
  | _ => none }
def flatsWhitneyRow : OpenClaim := { program := "ytaajhfhbonmaiaa", sum := "80a9fa4dcaee84c0c7e2f52189f4134b949b5a98983a2c267427069b7354c52c", func := "rota/rotakeep.FlatsWhitney", spec := "flatsWhitney", unfollowed := true, recurses := true, apart := false }
def FlatsWhitneySaid : Prop := flatsWhitneyRow.holds Try.pinned (OpenSpec.ofChange flatsWhitneySpec)

/-- ITS FALSE NEIGHBOUR: 'it returns false'. Refute it at one input. -/
def flatsWhitneyWrong : ChangeSpec := { name := "flatsWhitney", fn := fun _ => fun
  | [d] => { results := [.lit (.bool false)], args := [d] }
  | _ => none }
def FlatsWhitneyWrongFalsely : Prop := flatsWhitneyRow.holds Try.pinned (OpenSpec.ofChange flatsWhitneyWrong)

/-- 'rotakeep.FlatsSimple': WHATEVER THE INPUT: true; the input reads as it did. -/
def flatsSimpleSpec : ChangeSpec := { name := "flatsSimple", fn := fun _ => fun
  | [d] => { results := [.lit (.bool true)], args := [d] }
  | _ => none }
def flatsSimpleRow : OpenClaim := { program := "ytaajhfhbonmaiaa", sum := "80a9fa4dcaee84c0c7e2f52189f4134b949b5a98983a2c267427069b7354c52c", func := "rota/rotakeep.FlatsSimple", spec := "flatsSimple", unfollowed := true, recurses := true, apart := false }
def FlatsSimpleSaid : Prop := flatsSimpleRow.holds Try.pinned (OpenSpec.ofChange flatsSimpleSpec)

/-- ITS FALSE NEIGHBOUR: 'it returns false'. Refute it at one input. -/
def flatsSimpleWrong : ChangeSpec := { name := "flatsSimple", fn := fun _ => fun
  | [d] => { results := [.lit (.bool false)], args := [d] }
  | _ => none }
def FlatsSimpleWrongFalsely : Prop := flatsSimpleRow.holds Try.pinned (OpenSpec.ofChange flatsSimpleWrong)

/-- 'rotakeep.FlatsModular': WHATEVER THE INPUT: true; the input reads as it did. -/
def flatsModularSpec : ChangeSpec := { name := "flatsModular", fn := fun _ => fun
  | [d1, d2] => { results := [.lit (.bool true)], args := [d1, d2] }
  | _ => none }
def flatsModularRow : OpenClaim := { program := "ytaajhfhbonmaiaa", sum := "80a9fa4dcaee84c0c7e2f52189f4134b949b5a98983a2c267427069b7354c52c", func := "rota/rotakeep.FlatsModular", spec := "flatsModular", unfollowed := true, recurses := true, apart := false }
def FlatsModularSaid : Prop := flatsModularRow.holds Try.pinned (OpenSpec.ofChange flatsModularSpec)

/-- ITS FALSE NEIGHBOUR: 'it returns false'. Refute it at one input. -/
def flatsModularWrong : ChangeSpec := { name := "flatsModular", fn := fun _ => fun
  | [d1, d2] => { results := [.lit (.bool false)], args := [d1, d2] }
  | _ => none }
def FlatsModularWrongFalsely : Prop := flatsModularRow.holds Try.pinned (OpenSpec.ofChange flatsModularWrong)

/-- 'rotakeep.KindsUniform': WHATEVER THE INPUT: true; the input reads as it did. -/
def kindsUniformSpec : ChangeSpec := { name := "kindsUniform", fn := fun _ => fun
  | [d1, d2] => { results := [.lit (.bool true)], args := [d1, d2] }
  | _ => none }
def kindsUniformRow : OpenClaim := { program := "ytaajhfhbonmaiaa", sum := "80a9fa4dcaee84c0c7e2f52189f4134b949b5a98983a2c267427069b7354c52c", func := "rota/rotakeep.KindsUniform", spec := "kindsUniform", unfollowed := true, recurses := true, apart := false }
def KindsUniformSaid : Prop := kindsUniformRow.holds Try.pinned (OpenSpec.ofChange kindsUniformSpec)

/-- ITS FALSE NEIGHBOUR: 'it returns false'. Refute it at one input. -/
def kindsUniformWrong : ChangeSpec := { name := "kindsUniform", fn := fun _ => fun
  | [d1, d2] => { results := [.lit (.bool false)], args := [d1, d2] }
  | _ => none }
def KindsUniformWrongFalsely : Prop := kindsUniformRow.holds Try.pinned (OpenSpec.ofChange kindsUniformWrong)

/-- 'rotakeep.MinorsFree': WHATEVER THE INPUT: true; the input reads as it did. -/
def minorsFreeSpec : ChangeSpec := { name := "minorsFree", fn := fun _ => fun
  | [d1, d2] => { results := [.lit (.bool true)], args := [d1, d2] }
  | _ => none }
def minorsFreeRow : OpenClaim := { program := "ytaajhfhbonmaiaa", sum := "80a9fa4dcaee84c0c7e2f52189f4134b949b5a98983a2c267427069b7354c52c", func := "rota/rotakeep.MinorsFree", spec := "minorsFree", unfollowed := true, recurses := true, apart := false }
def MinorsFreeSaid : Prop := minorsFreeRow.holds Try.pinned (OpenSpec.ofChange minorsFreeSpec)

/-- ITS FALSE NEIGHBOUR: 'it returns false'. Refute it at one input. -/
def minorsFreeWrong : ChangeSpec := { name := "minorsFree", fn := fun _ => fun
  | [d1, d2] => { results := [.lit (.bool false)], args := [d1, d2] }
  | _ => none }
def MinorsFreeWrongFalsely : Prop := minorsFreeRow.holds Try.pinned (OpenSpec.ofChange minorsFreeWrong)

/-- 'rotakeep.MinorsParts': WHATEVER THE INPUT: true; the input reads as it did. -/
def minorsPartsSpec : ChangeSpec := { name := "minorsParts", fn := fun _ => fun
  | [d1, d2] => { results := [.lit (.bool true)], args := [d1, d2] }
  | _ => none }
def minorsPartsRow : OpenClaim := { program := "ytaajhfhbonmaiaa", sum := "80a9fa4dcaee84c0c7e2f52189f4134b949b5a98983a2c267427069b7354c52c", func := "rota/rotakeep.MinorsParts", spec := "minorsParts", unfollowed := true, recurses := true, apart := false }
def MinorsPartsSaid : Prop := minorsPartsRow.holds Try.pinned (OpenSpec.ofChange minorsPartsSpec)

/-- ITS FALSE NEIGHBOUR: 'it returns false'. Refute it at one input. -/
def minorsPartsWrong : ChangeSpec := { name := "minorsParts", fn := fun _ => fun
  | [d1, d2] => { results := [.lit (.bool false)], args := [d1, d2] }
  | _ => none }
def MinorsPartsWrongFalsely : Prop := minorsPartsRow.holds Try.pinned (OpenSpec.ofChange minorsPartsWrong)

/-- 'rotakeep.ComplexEuler': WHATEVER THE INPUT: true; the input reads as it did. -/
def complexEulerSpec : ChangeSpec := { name := "complexEuler", fn := fun _ => fun
  | [d1, d2, d3] => { results := [.lit (.bool true)], args := [d1, d2, d3] }
  | _ => none }
def complexEulerRow : OpenClaim := { program := "ytaajhfhbonmaiaa", sum := "80a9fa4dcaee84c0c7e2f52189f4134b949b5a98983a2c267427069b7354c52c", func := "rota/rotakeep.ComplexEuler", spec := "complexEuler", unfollowed := true, recurses := true, apart := false }
def ComplexEulerSaid : Prop := complexEulerRow.holds Try.pinned (OpenSpec.ofChange complexEulerSpec)

/-- ITS FALSE NEIGHBOUR: 'it returns false'. Refute it at one input. -/
def complexEulerWrong : ChangeSpec := { name := "complexEuler", fn := fun _ => fun
  | [d1, d2, d3] => { results := [.lit (.bool false)], args := [d1, d2, d3] }
  | _ => none }
def ComplexEulerWrongFalsely : Prop := complexEulerRow.holds Try.pinned (OpenSpec.ofChange complexEulerWrong)

/-- 'rotakeep.ComplexShelled': WHATEVER THE INPUT: true; the input reads as it did. -/
def complexShelledSpec : ChangeSpec := { name := "complexShelled", fn := fun _ => fun
  | [d1, d2, d3] => { results := [.lit (.bool true)], args := [d1, d2, d3] }
  | _ => none }
def complexShelledRow : OpenClaim := { program := "ytaajhfhbonmaiaa", sum := "80a9fa4dcaee84c0c7e2f52189f4134b949b5a98983a2c267427069b7354c52c", func := "rota/rotakeep.ComplexShelled", spec := "complexShelled", unfollowed := true, recurses := true, apart := false }
def ComplexShelledSaid : Prop := complexShelledRow.holds Try.pinned (OpenSpec.ofChange complexShelledSpec)

/-- ITS FALSE NEIGHBOUR: 'it returns false'. Refute it at one input. -/
def complexShelledWrong : ChangeSpec := { name := "complexShelled", fn := fun _ => fun
  | [d1, d2, d3] => { results := [.lit (.bool false)], args := [d1, d2, d3] }
  | _ => none }
def ComplexShelledWrongFalsely : Prop := complexShelledRow.holds Try.pinned (OpenSpec.ofChange complexShelledWrong)

/-- 'rotakeep.SetsKruskal': WHATEVER THE INPUT: true; the input reads as it did. -/
def setsKruskalSpec : ChangeSpec := { name := "setsKruskal", fn := fun _ => fun
  | [d1, d2, d3] => { results := [.lit (.bool true)], args := [d1, d2, d3] }
  | _ => none }
def setsKruskalRow : OpenClaim := { program := "ytaajhfhbonmaiaa", sum := "80a9fa4dcaee84c0c7e2f52189f4134b949b5a98983a2c267427069b7354c52c", func := "rota/rotakeep.SetsKruskal", spec := "setsKruskal", unfollowed := true, recurses := true, apart := false }
def SetsKruskalSaid : Prop := setsKruskalRow.holds Try.pinned (OpenSpec.ofChange setsKruskalSpec)

/-- ITS FALSE NEIGHBOUR: 'it returns false'. Refute it at one input. -/
def setsKruskalWrong : ChangeSpec := { name := "setsKruskal", fn := fun _ => fun
  | [d1, d2, d3] => { results := [.lit (.bool false)], args := [d1, d2, d3] }
  | _ => none }
def SetsKruskalWrongFalsely : Prop := setsKruskalRow.holds Try.pinned (OpenSpec.ofChange setsKruskalWrong)

/-- 'rotakeep.GreedySwap': WHATEVER THE INPUT: true; the input reads as it did. -/
def greedySwapSpec : ChangeSpec := { name := "greedySwap", fn := fun _ => fun
  | [d1, d2, d3, d4] => { results := [.lit (.bool true)], args := [d1, d2, d3, d4] }
  | _ => none }
def greedySwapRow : OpenClaim := { program := "ytaajhfhbonmaiaa", sum := "80a9fa4dcaee84c0c7e2f52189f4134b949b5a98983a2c267427069b7354c52c", func := "rota/rotakeep.GreedySwap", spec := "greedySwap", unfollowed := true, recurses := true, apart := false }
def GreedySwapSaid : Prop := greedySwapRow.holds Try.pinned (OpenSpec.ofChange greedySwapSpec)

/-- ITS FALSE NEIGHBOUR: 'it returns false'. Refute it at one input. -/
def greedySwapWrong : ChangeSpec := { name := "greedySwap", fn := fun _ => fun
  | [d1, d2, d3, d4] => { results := [.lit (.bool false)], args := [d1, d2, d3, d4] }
  | _ => none }
def GreedySwapWrongFalsely : Prop := greedySwapRow.holds Try.pinned (OpenSpec.ofChange greedySwapWrong)

/-- 'rotakeep.SameMinors': WHATEVER THE INPUT: true; the input reads as it did. -/
def sameMinorsSpec : ChangeSpec := { name := "sameMinors", fn := fun _ => fun
  | [d1, d2, d3, d4] => { results := [.lit (.bool true)], args := [d1, d2, d3, d4] }
  | _ => none }
def sameMinorsRow : OpenClaim := { program := "ytaajhfhbonmaiaa", sum := "80a9fa4dcaee84c0c7e2f52189f4134b949b5a98983a2c267427069b7354c52c", func := "rota/rotakeep.SameMinors", spec := "sameMinors", unfollowed := true, recurses := true, apart := false }
def SameMinorsSaid : Prop := sameMinorsRow.holds Try.pinned (OpenSpec.ofChange sameMinorsSpec)

/-- ITS FALSE NEIGHBOUR: 'it returns false'. Refute it at one input. -/
def sameMinorsWrong : ChangeSpec := { name := "sameMinors", fn := fun _ => fun
  | [d1, d2, d3, d4] => { results := [.lit (.bool false)], args := [d1, d2, d3, d4] }
  | _ => none }
def SameMinorsWrongFalsely : Prop := sameMinorsRow.holds Try.pinned (OpenSpec.ofChange sameMinorsWrong)

/-- 'rotakeep.MeetSame': WHATEVER THE INPUT: true; the input reads as it did. -/
def meetSameSpec : ChangeSpec := { name := "meetSame", fn := fun _ => fun
  | [d1, d2, d3] => { results := [.lit (.bool true)], args := [d1, d2, d3] }
  | _ => none }
def meetSameRow : OpenClaim := { program := "ytaajhfhbonmaiaa", sum := "80a9fa4dcaee84c0c7e2f52189f4134b949b5a98983a2c267427069b7354c52c", func := "rota/rotakeep.MeetSame", spec := "meetSame", unfollowed := true, recurses := true, apart := false }
def MeetSameSaid : Prop := meetSameRow.holds Try.pinned (OpenSpec.ofChange meetSameSpec)

/-- ITS FALSE NEIGHBOUR: 'it returns false'. Refute it at one input. -/
def meetSameWrong : ChangeSpec := { name := "meetSame", fn := fun _ => fun
  | [d1, d2, d3] => { results := [.lit (.bool false)], args := [d1, d2, d3] }
  | _ => none }
def MeetSameWrongFalsely : Prop := meetSameRow.holds Try.pinned (OpenSpec.ofChange meetSameWrong)

/- THE SECOND FORM. 'bulk': how many values and letters a reading holds, each counted each time it is reached (what is shared counts as often as it is met; a slice's spare places count too). A statement '..UptoSaid' is the law's where the arguments, and the package variables that the reading takes, are together of bulk at most 1048576: NARROWER than '..Said'. Prove '..Said' where nothing that the law and all that it calls make is longer than what came in: it says more and counts as full. Else prove '..UptoSaid'. A law counts once. -/
mutual
def uptoBulk {H : Type} : DataW H → Nat
  | .lit (.string bytes) => bytes.length + 1
  | .lit _ => 1
  | .nil => 1
  | .ptr d => uptoBulk d + 1
  | .slice elems spare => uptoBulkAll elems + uptoBulkAll spare + 1
  | .agg parts => uptoBulkAll parts + 1
  | .iface _ d => uptoBulk d + 1
  | .map entries => uptoBulkEntries entries + 1
  | .held _ => 1
def uptoBulkAll {H : Type} : List (DataW H) → Nat
  | [] => 0
  | d :: r => uptoBulk d + uptoBulkAll r
def uptoBulkEntries {H : Type} : List (Lit × DataW H) → Nat
  | [] => 0
  | x :: r => uptoBulkEntry x + uptoBulkEntries r
def uptoBulkEntry {H : Type} : Lit × DataW H → Nat
  | (.string bytes, d) => bytes.length + uptoBulk d + 1
  | (_, d) => uptoBulk d + 1
 end
def uptoSmall : (H : Type) → List (DataW H) → Bool := fun _ ds => decide (uptoBulkAll ds ≤ 1048576)
def OpenSpec.upto (s : _root_.Go.ChangeSpec) : _root_.Go.OpenSpec := { _root_.Go.OpenSpec.ofChange s with cond := some uptoSmall }

/-- 'rotakeep.FlatsWhitney', WHERE WHAT IT READS IS OF BULK AT MOST 1048576: true; the input reads as it did. -/
def flatsWhitneyUptoRow : OpenClaim := { program := "ytaajhfhbonmaiaa", sum := "80a9fa4dcaee84c0c7e2f52189f4134b949b5a98983a2c267427069b7354c52c", func := "rota/rotakeep.FlatsWhitney", spec := "flatsWhitney", unfollowed := true, recurses := true, apart := false, narrowed := true }
def FlatsWhitneyUptoSaid : Prop := flatsWhitneyUptoRow.holds Try.pinned (OpenSpec.upto flatsWhitneySpec)

/-- 'rotakeep.FlatsSimple', WHERE WHAT IT READS IS OF BULK AT MOST 1048576: true; the input reads as it did. -/
def flatsSimpleUptoRow : OpenClaim := { program := "ytaajhfhbonmaiaa", sum := "80a9fa4dcaee84c0c7e2f52189f4134b949b5a98983a2c267427069b7354c52c", func := "rota/rotakeep.FlatsSimple", spec := "flatsSimple", unfollowed := true, recurses := true, apart := false, narrowed := true }
def FlatsSimpleUptoSaid : Prop := flatsSimpleUptoRow.holds Try.pinned (OpenSpec.upto flatsSimpleSpec)

/-- 'rotakeep.FlatsModular', WHERE WHAT IT READS IS OF BULK AT MOST 1048576: true; the input reads as it did. -/
def flatsModularUptoRow : OpenClaim := { program := "ytaajhfhbonmaiaa", sum := "80a9fa4dcaee84c0c7e2f52189f4134b949b5a98983a2c267427069b7354c52c", func := "rota/rotakeep.FlatsModular", spec := "flatsModular", unfollowed := true, recurses := true, apart := false, narrowed := true }
def FlatsModularUptoSaid : Prop := flatsModularUptoRow.holds Try.pinned (OpenSpec.upto flatsModularSpec)

/-- 'rotakeep.KindsUniform', WHERE WHAT IT READS IS OF BULK AT MOST 1048576: true; the input reads as it did. -/
def kindsUniformUptoRow : OpenClaim := { program := "ytaajhfhbonmaiaa", sum := "80a9fa4dcaee84c0c7e2f52189f4134b949b5a98983a2c267427069b7354c52c", func := "rota/rotakeep.KindsUniform", spec := "kindsUniform", unfollowed := true, recurses := true, apart := false, narrowed := true }
def KindsUniformUptoSaid : Prop := kindsUniformUptoRow.holds Try.pinned (OpenSpec.upto kindsUniformSpec)

/-- 'rotakeep.MinorsFree', WHERE WHAT IT READS IS OF BULK AT MOST 1048576: true; the input reads as it did. -/
def minorsFreeUptoRow : OpenClaim := { program := "ytaajhfhbonmaiaa", sum := "80a9fa4dcaee84c0c7e2f52189f4134b949b5a98983a2c267427069b7354c52c", func := "rota/rotakeep.MinorsFree", spec := "minorsFree", unfollowed := true, recurses := true, apart := false, narrowed := true }
def MinorsFreeUptoSaid : Prop := minorsFreeUptoRow.holds Try.pinned (OpenSpec.upto minorsFreeSpec)

/-- 'rotakeep.MinorsParts', WHERE WHAT IT READS IS OF BULK AT MOST 1048576: true; the input reads as it did. -/
def minorsPartsUptoRow : OpenClaim := { program := "ytaajhfhbonmaiaa", sum := "80a9fa4dcaee84c0c7e2f52189f4134b949b5a98983a2c267427069b7354c52c", func := "rota/rotakeep.MinorsParts", spec := "minorsParts", unfollowed := true, recurses := true, apart := false, narrowed := true }
def MinorsPartsUptoSaid : Prop := minorsPartsUptoRow.holds Try.pinned (OpenSpec.upto minorsPartsSpec)

/-- 'rotakeep.ComplexEuler', WHERE WHAT IT READS IS OF BULK AT MOST 1048576: true; the input reads as it did. -/
def complexEulerUptoRow : OpenClaim := { program := "ytaajhfhbonmaiaa", sum := "80a9fa4dcaee84c0c7e2f52189f4134b949b5a98983a2c267427069b7354c52c", func := "rota/rotakeep.ComplexEuler", spec := "complexEuler", unfollowed := true, recurses := true, apart := false, narrowed := true }
def ComplexEulerUptoSaid : Prop := complexEulerUptoRow.holds Try.pinned (OpenSpec.upto complexEulerSpec)

/-- 'rotakeep.ComplexShelled', WHERE WHAT IT READS IS OF BULK AT MOST 1048576: true; the input reads as it did. -/
def complexShelledUptoRow : OpenClaim := { program := "ytaajhfhbonmaiaa", sum := "80a9fa4dcaee84c0c7e2f52189f4134b949b5a98983a2c267427069b7354c52c", func := "rota/rotakeep.ComplexShelled", spec := "complexShelled", unfollowed := true, recurses := true, apart := false, narrowed := true }
def ComplexShelledUptoSaid : Prop := complexShelledUptoRow.holds Try.pinned (OpenSpec.upto complexShelledSpec)

/-- 'rotakeep.SetsKruskal', WHERE WHAT IT READS IS OF BULK AT MOST 1048576: true; the input reads as it did. -/
def setsKruskalUptoRow : OpenClaim := { program := "ytaajhfhbonmaiaa", sum := "80a9fa4dcaee84c0c7e2f52189f4134b949b5a98983a2c267427069b7354c52c", func := "rota/rotakeep.SetsKruskal", spec := "setsKruskal", unfollowed := true, recurses := true, apart := false, narrowed := true }
def SetsKruskalUptoSaid : Prop := setsKruskalUptoRow.holds Try.pinned (OpenSpec.upto setsKruskalSpec)

/-- 'rotakeep.GreedySwap', WHERE WHAT IT READS IS OF BULK AT MOST 1048576: true; the input reads as it did. -/
def greedySwapUptoRow : OpenClaim := { program := "ytaajhfhbonmaiaa", sum := "80a9fa4dcaee84c0c7e2f52189f4134b949b5a98983a2c267427069b7354c52c", func := "rota/rotakeep.GreedySwap", spec := "greedySwap", unfollowed := true, recurses := true, apart := false, narrowed := true }
def GreedySwapUptoSaid : Prop := greedySwapUptoRow.holds Try.pinned (OpenSpec.upto greedySwapSpec)

/-- 'rotakeep.SameMinors', WHERE WHAT IT READS IS OF BULK AT MOST 1048576: true; the input reads as it did. -/
def sameMinorsUptoRow : OpenClaim := { program := "ytaajhfhbonmaiaa", sum := "80a9fa4dcaee84c0c7e2f52189f4134b949b5a98983a2c267427069b7354c52c", func := "rota/rotakeep.SameMinors", spec := "sameMinors", unfollowed := true, recurses := true, apart := false, narrowed := true }
def SameMinorsUptoSaid : Prop := sameMinorsUptoRow.holds Try.pinned (OpenSpec.upto sameMinorsSpec)

/-- 'rotakeep.MeetSame', WHERE WHAT IT READS IS OF BULK AT MOST 1048576: true; the input reads as it did. -/
def meetSameUptoRow : OpenClaim := { program := "ytaajhfhbonmaiaa", sum := "80a9fa4dcaee84c0c7e2f52189f4134b949b5a98983a2c267427069b7354c52c", func := "rota/rotakeep.MeetSame", spec := "meetSame", unfollowed := true, recurses := true, apart := false, narrowed := true }
def MeetSameUptoSaid : Prop := meetSameUptoRow.holds Try.pinned (OpenSpec.upto meetSameSpec)

end Rows
end Go.Proofs.Ytaajhfhbonmaiaa
