/-
  No cell of these rows narrows 'for every input' (looked for: loops, veiled, ifaces, maps, wideKeys, modest, calm, conditions, laid).
  DERIVED. THE GIVEN ROWS OF THIS SEAT. 12 by the template 'for every input the law returns true; each argument reads behind the call as it read before'; 0 by the template 'total and deterministic' (their statements: YtdhbpoafkhojnaaTotals.lean).
  GIVEN WITH THE SEED: the statements are not yours to turn. If you find one false, say at which input.
  Laid BY PROGRAM, IN A SANDBOX (cutbox-rows.mjs): the forced cells as the released guide's own fill.sh prints them over the translation 09301220214c1012… (all of the seat's roots in one cut). By AI agents, Wed Nov 11 2026. No macro, syntax, notation, axiom, sorry.
-/
import Derived.Test.YtdhbpoafkhojnaaChecked
import GoSem.Claim
import GoSem.ClaimJoined
import GoSem.ClaimMapViews
import Derived.JoinedTies
import Derived.KernelRfl
namespace Go.Proofs.Ytdhbpoafkhojnaa
/- THE CELL 'sum', in the pinned program and in every row, IS THE sha256 OF THE DUMP (.gsa) THAT YtdhbpoafkhojnaaProg.lean LOADS. Nothing in Lean hashes anything: it is a label: what it is worth is what the hold of that sum in a sandbox is worth. -/
noncomputable def Try.pinned : Pinned := { name := "ytdhbpoafkhojnaa", sum := "09301220214c10129c73e3381401a13b9c0d951428f8429c007ecbfa6711d9dd", checked := Try.checked }
namespace Rows
def none {H : Type} : Left H := { results := [], args := [] }

/-- 'rotakeep.SameOrbit': WHATEVER THE INPUT: true; the input reads as it did. -/
def sameOrbitSpec : ChangeSpec := { name := "sameOrbit", fn := fun _ => fun
  | [d] => { results := [.lit (.bool true)], args := [d] }
  | _ => none }
def sameOrbitRow : OpenClaim := { program := "ytdhbpoafkhojnaa", sum := "09301220214c10129c73e3381401a13b9c0d951428f8429c007ecbfa6711d9dd", func := "rota/rotakeep.SameOrbit", spec := "sameOrbit", unfollowed := true, recurses := true, apart := false }
def SameOrbitSaid : Prop := sameOrbitRow.holds Try.pinned (OpenSpec.ofChange sameOrbitSpec)

/-- ITS FALSE NEIGHBOUR: 'it returns false'. Refute it at one input. -/
def sameOrbitWrong : ChangeSpec := { name := "sameOrbit", fn := fun _ => fun
  | [d] => { results := [.lit (.bool false)], args := [d] }
  | _ => none }
def SameOrbitWrongFalsely : Prop := sameOrbitRow.holds Try.pinned (OpenSpec.ofChange sameOrbitWrong)

/-- 'rotakeep.KindsTotal': WHATEVER THE INPUT: true; the input reads as it did. -/
def kindsTotalSpec : ChangeSpec := { name := "kindsTotal", fn := fun _ => fun
  | [d1, d2] => { results := [.lit (.bool true)], args := [d1, d2] }
  | _ => none }
def kindsTotalRow : OpenClaim := { program := "ytdhbpoafkhojnaa", sum := "09301220214c10129c73e3381401a13b9c0d951428f8429c007ecbfa6711d9dd", func := "rota/rotakeep.KindsTotal", spec := "kindsTotal", unfollowed := true, recurses := true, apart := false }
def KindsTotalSaid : Prop := kindsTotalRow.holds Try.pinned (OpenSpec.ofChange kindsTotalSpec)

/-- ITS FALSE NEIGHBOUR: 'it returns false'. Refute it at one input. -/
def kindsTotalWrong : ChangeSpec := { name := "kindsTotal", fn := fun _ => fun
  | [d1, d2] => { results := [.lit (.bool false)], args := [d1, d2] }
  | _ => none }
def KindsTotalWrongFalsely : Prop := kindsTotalRow.holds Try.pinned (OpenSpec.ofChange kindsTotalWrong)

/-- 'rotakeep.FieldProducts': WHATEVER THE INPUT: true; the input reads as it did. -/
def fieldProductsSpec : ChangeSpec := { name := "fieldProducts", fn := fun _ => fun
  | [d1, d2] => { results := [.lit (.bool true)], args := [d1, d2] }
  | _ => none }
def fieldProductsRow : OpenClaim := { program := "ytdhbpoafkhojnaa", sum := "09301220214c10129c73e3381401a13b9c0d951428f8429c007ecbfa6711d9dd", func := "rota/rotakeep.FieldProducts", spec := "fieldProducts", apart := false }
def FieldProductsSaid : Prop := fieldProductsRow.holds Try.pinned (OpenSpec.ofChange fieldProductsSpec)

/-- ITS FALSE NEIGHBOUR: 'it returns false'. Refute it at one input. -/
def fieldProductsWrong : ChangeSpec := { name := "fieldProducts", fn := fun _ => fun
  | [d1, d2] => { results := [.lit (.bool false)], args := [d1, d2] }
  | _ => none }
def FieldProductsWrongFalsely : Prop := fieldProductsRow.holds Try.pinned (OpenSpec.ofChange fieldProductsWrong)

/-- 'rotakeep.FieldRing': WHATEVER THE INPUT: true; the input reads as it did. -/
def fieldRingSpec : ChangeSpec := { name := "fieldRing", fn := fun _ => fun
  | [d1, d2, d3] => { results := [.lit (.bool true)], args := [d1, d2, d3] }
  | _ => none }
def fieldRingRow : OpenClaim := { program := "ytdhbpoafkhojnaa", sum := "09301220214c10129c73e3381401a13b9c0d951428f8429c007ecbfa6711d9dd", func := "rota/rotakeep.FieldRing", spec := "fieldRing", apart := false }
def FieldRingSaid : Prop := fieldRingRow.holds Try.pinned (OpenSpec.ofChange fieldRingSpec)

/-- ITS FALSE NEIGHBOUR: 'it returns false'. Refute it at one input. -/
def fieldRingWrong : ChangeSpec := { name := "fieldRing", fn := fun _ => fun
  | [d1, d2, d3] => { results := [.lit (.bool false)], args := [d1, d2, d3] }
  | _ => none }
def FieldRingWrongFalsely : Prop := fieldRingRow.holds Try.pinned (OpenSpec.ofChange fieldRingWrong)

/-- 'rotakeep.FieldKernel': WHATEVER THE INPUT: true; the input reads as it did. -/
def fieldKernelSpec : ChangeSpec := { name := "fieldKernel", fn := fun _ => fun
  | [d] => { results := [.lit (.bool true)], args := [d] }
  | _ => none }
def fieldKernelRow : OpenClaim := { program := "ytdhbpoafkhojnaa", sum := "09301220214c10129c73e3381401a13b9c0d951428f8429c007ecbfa6711d9dd", func := "rota/rotakeep.FieldKernel", spec := "fieldKernel", unfollowed := true, recurses := true, apart := false }
def FieldKernelSaid : Prop := fieldKernelRow.holds Try.pinned (OpenSpec.ofChange fieldKernelSpec)

/-- ITS FALSE NEIGHBOUR: 'it returns false'. Refute it at one input. -/
def fieldKernelWrong : ChangeSpec := { name := "fieldKernel", fn := fun _ => fun
  | [d] => { results := [.lit (.bool false)], args := [d] }
  | _ => none }
def FieldKernelWrongFalsely : Prop := fieldKernelRow.holds Try.pinned (OpenSpec.ofChange fieldKernelWrong)

/-- 'rotakeep.LinksTurned': WHATEVER THE INPUT: true; the input reads as it did. -/
def linksTurnedSpec : ChangeSpec := { name := "linksTurned", fn := fun _ => fun
  | [d1, d2, d3, d4] => { results := [.lit (.bool true)], args := [d1, d2, d3, d4] }
  | _ => none }
def linksTurnedRow : OpenClaim := { program := "ytdhbpoafkhojnaa", sum := "09301220214c10129c73e3381401a13b9c0d951428f8429c007ecbfa6711d9dd", func := "rota/rotakeep.LinksTurned", spec := "linksTurned", apart := false }
def LinksTurnedSaid : Prop := linksTurnedRow.holds Try.pinned (OpenSpec.ofChange linksTurnedSpec)

/-- ITS FALSE NEIGHBOUR: 'it returns false'. Refute it at one input. -/
def linksTurnedWrong : ChangeSpec := { name := "linksTurned", fn := fun _ => fun
  | [d1, d2, d3, d4] => { results := [.lit (.bool false)], args := [d1, d2, d3, d4] }
  | _ => none }
def LinksTurnedWrongFalsely : Prop := linksTurnedRow.holds Try.pinned (OpenSpec.ofChange linksTurnedWrong)

/-- 'rotakeep.LinksMenger': WHATEVER THE INPUT: true; the input reads as it did. -/
def linksMengerSpec : ChangeSpec := { name := "linksMenger", fn := fun _ => fun
  | [d1, d2, d3] => { results := [.lit (.bool true)], args := [d1, d2, d3] }
  | _ => none }
def linksMengerRow : OpenClaim := { program := "ytdhbpoafkhojnaa", sum := "09301220214c10129c73e3381401a13b9c0d951428f8429c007ecbfa6711d9dd", func := "rota/rotakeep.LinksMenger", spec := "linksMenger", unfollowed := true, recurses := true, apart := false }
def LinksMengerSaid : Prop := linksMengerRow.holds Try.pinned (OpenSpec.ofChange linksMengerSpec)

/-- ITS FALSE NEIGHBOUR: 'it returns false'. Refute it at one input. -/
def linksMengerWrong : ChangeSpec := { name := "linksMenger", fn := fun _ => fun
  | [d1, d2, d3] => { results := [.lit (.bool false)], args := [d1, d2, d3] }
  | _ => none }
def LinksMengerWrongFalsely : Prop := linksMengerRow.holds Try.pinned (OpenSpec.ofChange linksMengerWrong)

/-- 'rotakeep.LinksIngleton': WHATEVER THE INPUT: true; the input reads as it did. -/
def linksIngletonSpec : ChangeSpec := { name := "linksIngleton", fn := fun _ => fun
  | [d1, d2] => { results := [.lit (.bool true)], args := [d1, d2] }
  | _ => none }
def linksIngletonRow : OpenClaim := { program := "ytdhbpoafkhojnaa", sum := "09301220214c10129c73e3381401a13b9c0d951428f8429c007ecbfa6711d9dd", func := "rota/rotakeep.LinksIngleton", spec := "linksIngleton", unfollowed := true, recurses := true, apart := false }
def LinksIngletonSaid : Prop := linksIngletonRow.holds Try.pinned (OpenSpec.ofChange linksIngletonSpec)

/-- ITS FALSE NEIGHBOUR: 'it returns false'. Refute it at one input. -/
def linksIngletonWrong : ChangeSpec := { name := "linksIngleton", fn := fun _ => fun
  | [d1, d2] => { results := [.lit (.bool false)], args := [d1, d2] }
  | _ => none }
def LinksIngletonWrongFalsely : Prop := linksIngletonRow.holds Try.pinned (OpenSpec.ofChange linksIngletonWrong)

/-- 'rotakeep.KindsAre': WHATEVER THE INPUT: true; the input reads as it did. -/
def kindsAreSpec : ChangeSpec := { name := "kindsAre", fn := fun _ => fun
  | [d1, d2, d3, d4, d5] => { results := [.lit (.bool true)], args := [d1, d2, d3, d4, d5] }
  | _ => none }
def kindsAreRow : OpenClaim := { program := "ytdhbpoafkhojnaa", sum := "09301220214c10129c73e3381401a13b9c0d951428f8429c007ecbfa6711d9dd", func := "rota/rotakeep.KindsAre", spec := "kindsAre", unfollowed := true, recurses := true, apart := false }
def KindsAreSaid : Prop := kindsAreRow.holds Try.pinned (OpenSpec.ofChange kindsAreSpec)

/-- ITS FALSE NEIGHBOUR: 'it returns false'. Refute it at one input. -/
def kindsAreWrong : ChangeSpec := { name := "kindsAre", fn := fun _ => fun
  | [d1, d2, d3, d4, d5] => { results := [.lit (.bool false)], args := [d1, d2, d3, d4, d5] }
  | _ => none }
def KindsAreWrongFalsely : Prop := kindsAreRow.holds Try.pinned (OpenSpec.ofChange kindsAreWrong)

/-- 'rotakeep.CodesBounds': WHATEVER THE INPUT: true; the input reads as it did. -/
def codesBoundsSpec : ChangeSpec := { name := "codesBounds", fn := fun _ => fun
  | [d] => { results := [.lit (.bool true)], args := [d] }
  | _ => none }
def codesBoundsRow : OpenClaim := { program := "ytdhbpoafkhojnaa", sum := "09301220214c10129c73e3381401a13b9c0d951428f8429c007ecbfa6711d9dd", func := "rota/rotakeep.CodesBounds", spec := "codesBounds", unfollowed := true, recurses := true, apart := false }
def CodesBoundsSaid : Prop := codesBoundsRow.holds Try.pinned (OpenSpec.ofChange codesBoundsSpec)

/-- ITS FALSE NEIGHBOUR: 'it returns false'. Refute it at one input. -/
def codesBoundsWrong : ChangeSpec := { name := "codesBounds", fn := fun _ => fun
  | [d] => { results := [.lit (.bool false)], args := [d] }
  | _ => none }
def CodesBoundsWrongFalsely : Prop := codesBoundsRow.holds Try.pinned (OpenSpec.ofChange codesBoundsWrong)

/-- 'rotakeep.TutteBeta': WHATEVER THE INPUT: true; the input reads as it did. -/
def tutteBetaSpec : ChangeSpec := { name := "tutteBeta", fn := fun _ => fun
  | [d] => { results := [.lit (.bool true)], args := [d] }
  | _ => none }
def tutteBetaRow : OpenClaim := { program := "ytdhbpoafkhojnaa", sum := "09301220214c10129c73e3381401a13b9c0d951428f8429c007ecbfa6711d9dd", func := "rota/rotakeep.TutteBeta", spec := "tutteBeta", unfollowed := true, recurses := true, apart := false }
def TutteBetaSaid : Prop := tutteBetaRow.holds Try.pinned (OpenSpec.ofChange tutteBetaSpec)

/-- ITS FALSE NEIGHBOUR: 'it returns false'. Refute it at one input. -/
def tutteBetaWrong : ChangeSpec := { name := "tutteBeta", fn := fun _ => fun
  | [d] => { results := [.lit (.bool false)], args := [d] }
  | _ => none }
def TutteBetaWrongFalsely : Prop := tutteBetaRow.holds Try.pinned (OpenSpec.ofChange tutteBetaWrong)

/-- 'rotakeep.TutteCrapo': WHATEVER THE INPUT: true; the input reads as it did. -/
def tutteCrapoSpec : ChangeSpec := { name := "tutteCrapo", fn := fun _ => fun
  | [d] => { results := [.lit (.bool true)], args := [d] }
  | _ => none }
def tutteCrapoRow : OpenClaim := { program := "ytdhbpoafkhojnaa", sum := "09301220214c10129c73e3381401a13b9c0d951428f8429c007ecbfa6711d9dd", func := "rota/rotakeep.TutteCrapo", spec := "tutteCrapo", unfollowed := true, recurses := true, apart := false }
def TutteCrapoSaid : Prop := tutteCrapoRow.holds Try.pinned (OpenSpec.ofChange tutteCrapoSpec)

/-- ITS FALSE NEIGHBOUR: 'it returns false'. Refute it at one input. -/
def tutteCrapoWrong : ChangeSpec := { name := "tutteCrapo", fn := fun _ => fun
  | [d] => { results := [.lit (.bool false)], args := [d] }
  | _ => none }
def TutteCrapoWrongFalsely : Prop := tutteCrapoRow.holds Try.pinned (OpenSpec.ofChange tutteCrapoWrong)

/- THE SECOND FORM. 'bulk': how many values and letters a reading holds, each counted each time it is reached (what is shared counts as often as it is met; a slice's spare places count too). A statement '..UptoSaid' is the law's where the arguments, and the package variables that the reading takes, are together of bulk at most 1048576: NARROWER than '..Said'. Prove '..Said' where nothing that the law and all that it calls make is longer than what came in: it says more and counts as full. Else prove '..UptoSaid'. A law counts once. -/
mutual
def uptoBulk {H : Type} : DataW H → Nat
  | .lit (.string bytes) => bytes.length + 1
  | .lit _ => 1
  | .nil => 1
  | .ptr d => uptoBulk d + 1
  | .slice elems spare => uptoBulkAll elems + uptoBulkAll spare + 1
  | .agg parts => uptoBulkAll parts + 1
  | .iface _ d => uptoBulk d + 1
  | .map entries => uptoBulkEntries entries + 1
  | .held _ => 1
def uptoBulkAll {H : Type} : List (DataW H) → Nat
  | [] => 0
  | d :: r => uptoBulk d + uptoBulkAll r
def uptoBulkEntries {H : Type} : List (Lit × DataW H) → Nat
  | [] => 0
  | x :: r => uptoBulkEntry x + uptoBulkEntries r
def uptoBulkEntry {H : Type} : Lit × DataW H → Nat
  | (.string bytes, d) => bytes.length + uptoBulk d + 1
  | (_, d) => uptoBulk d + 1
 end
def uptoSmall : (H : Type) → List (DataW H) → Bool := fun _ ds => decide (uptoBulkAll ds ≤ 1048576)
def OpenSpec.upto (s : _root_.Go.ChangeSpec) : _root_.Go.OpenSpec := { _root_.Go.OpenSpec.ofChange s with cond := some uptoSmall }

/-- 'rotakeep.SameOrbit', WHERE WHAT IT READS IS OF BULK AT MOST 1048576: true; the input reads as it did. -/
def sameOrbitUptoRow : OpenClaim := { program := "ytdhbpoafkhojnaa", sum := "09301220214c10129c73e3381401a13b9c0d951428f8429c007ecbfa6711d9dd", func := "rota/rotakeep.SameOrbit", spec := "sameOrbit", unfollowed := true, recurses := true, apart := false, narrowed := true }
def SameOrbitUptoSaid : Prop := sameOrbitUptoRow.holds Try.pinned (OpenSpec.upto sameOrbitSpec)

/-- 'rotakeep.KindsTotal', WHERE WHAT IT READS IS OF BULK AT MOST 1048576: true; the input reads as it did. -/
def kindsTotalUptoRow : OpenClaim := { program := "ytdhbpoafkhojnaa", sum := "09301220214c10129c73e3381401a13b9c0d951428f8429c007ecbfa6711d9dd", func := "rota/rotakeep.KindsTotal", spec := "kindsTotal", unfollowed := true, recurses := true, apart := false, narrowed := true }
def KindsTotalUptoSaid : Prop := kindsTotalUptoRow.holds Try.pinned (OpenSpec.upto kindsTotalSpec)

/-- 'rotakeep.FieldProducts', WHERE WHAT IT READS IS OF BULK AT MOST 1048576: true; the input reads as it did. -/
def fieldProductsUptoRow : OpenClaim := { program := "ytdhbpoafkhojnaa", sum := "09301220214c10129c73e3381401a13b9c0d951428f8429c007ecbfa6711d9dd", func := "rota/rotakeep.FieldProducts", spec := "fieldProducts", apart := false, narrowed := true }
def FieldProductsUptoSaid : Prop := fieldProductsUptoRow.holds Try.pinned (OpenSpec.upto fieldProductsSpec)

/-- 'rotakeep.FieldRing', WHERE WHAT IT READS IS OF BULK AT MOST 1048576: true; the input reads as it did. -/
def fieldRingUptoRow : OpenClaim := { program := "ytdhbpoafkhojnaa", sum := "09301220214c10129c73e3381401a13b9c0d951428f8429c007ecbfa6711d9dd", func := "rota/rotakeep.FieldRing", spec := "fieldRing", apart := false, narrowed := true }
def FieldRingUptoSaid : Prop := fieldRingUptoRow.holds Try.pinned (OpenSpec.upto fieldRingSpec)

/-- 'rotakeep.FieldKernel', WHERE WHAT IT READS IS OF BULK AT MOST 1048576: true; the input reads as it did. -/
def fieldKernelUptoRow : OpenClaim := { program := "ytdhbpoafkhojnaa", sum := "09301220214c10129c73e3381401a13b9c0d951428f8429c007ecbfa6711d9dd", func := "rota/rotakeep.FieldKernel", spec := "fieldKernel", unfollowed := true, recurses := true, apart := false, narrowed := true }
def FieldKernelUptoSaid : Prop := fieldKernelUptoRow.holds Try.pinned (OpenSpec.upto fieldKernelSpec)

/-- 'rotakeep.LinksTurned', WHERE WHAT IT READS IS OF BULK AT MOST 1048576: true; the input reads as it did. -/
def linksTurnedUptoRow : OpenClaim := { program := "ytdhbpoafkhojnaa", sum := "09301220214c10129c73e3381401a13b9c0d951428f8429c007ecbfa6711d9dd", func := "rota/rotakeep.LinksTurned", spec := "linksTurned", apart := false, narrowed := true }
def LinksTurnedUptoSaid : Prop := linksTurnedUptoRow.holds Try.pinned (OpenSpec.upto linksTurnedSpec)

/-- 'rotakeep.LinksMenger', WHERE WHAT IT READS IS OF BULK AT MOST 1048576: true; the input reads as it did. -/
def linksMengerUptoRow : OpenClaim := { program := "ytdhbpoafkhojnaa", sum := "09301220214c10129c73e3381401a13b9c0d951428f8429c007ecbfa6711d9dd", func := "rota/rotakeep.LinksMenger", spec := "linksMenger", unfollowed := true, recurses := true, apart := false, narrowed := true }
def LinksMengerUptoSaid : Prop := linksMengerUptoRow.holds Try.pinned (OpenSpec.upto linksMengerSpec)

/-- 'rotakeep.LinksIngleton', WHERE WHAT IT READS IS OF BULK AT MOST 1048576: true; the input reads as it did. -/
def linksIngletonUptoRow : OpenClaim := { program := "ytdhbpoafkhojnaa", sum := "09301220214c10129c73e3381401a13b9c0d951428f8429c007ecbfa6711d9dd", func := "rota/rotakeep.LinksIngleton", spec := "linksIngleton", unfollowed := true, recurses := true, apart := false, narrowed := true }
def LinksIngletonUptoSaid : Prop := linksIngletonUptoRow.holds Try.pinned (OpenSpec.upto linksIngletonSpec)

/-- 'rotakeep.KindsAre', WHERE WHAT IT READS IS OF BULK AT MOST 1048576: true; the input reads as it did. -/
def kindsAreUptoRow : OpenClaim := { program := "ytdhbpoafkhojnaa", sum := "09301220214c10129c73e3381401a13b9c0d951428f8429c007ecbfa6711d9dd", func := "rota/rotakeep.KindsAre", spec := "kindsAre", unfollowed := true, recurses := true, apart := false, narrowed := true }
def KindsAreUptoSaid : Prop := kindsAreUptoRow.holds Try.pinned (OpenSpec.upto kindsAreSpec)

/-- 'rotakeep.CodesBounds', WHERE WHAT IT READS IS OF BULK AT MOST 1048576: true; the input reads as it did. -/
def codesBoundsUptoRow : OpenClaim := { program := "ytdhbpoafkhojnaa", sum := "09301220214c10129c73e3381401a13b9c0d951428f8429c007ecbfa6711d9dd", func := "rota/rotakeep.CodesBounds", spec := "codesBounds", unfollowed := true, recurses := true, apart := false, narrowed := true }
def CodesBoundsUptoSaid : Prop := codesBoundsUptoRow.holds Try.pinned (OpenSpec.upto codesBoundsSpec)

/-- 'rotakeep.TutteBeta', WHERE WHAT IT READS IS OF BULK AT MOST 1048576: true; the input reads as it did. -/
def tutteBetaUptoRow : OpenClaim := { program := "ytdhbpoafkhojnaa", sum := "09301220214c10129c73e3381401a13b9c0d951428f8429c007ecbfa6711d9dd", func := "rota/rotakeep.TutteBeta", spec := "tutteBeta", unfollowed := true, recurses := true, apart := false, narrowed := true }
def TutteBetaUptoSaid : Prop := tutteBetaUptoRow.holds Try.pinned (OpenSpec.upto tutteBetaSpec)

/-- 'rotakeep.TutteCrapo', WHERE WHAT IT READS IS OF BULK AT MOST 1048576: true; the input reads as it did. -/
def tutteCrapoUptoRow : OpenClaim := { program := "ytdhbpoafkhojnaa", sum := "09301220214c10129c73e3381401a13b9c0d951428f8429c007ecbfa6711d9dd", func := "rota/rotakeep.TutteCrapo", spec := "tutteCrapo", unfollowed := true, recurses := true, apart := false, narrowed := true }
def TutteCrapoUptoSaid : Prop := tutteCrapoUptoRow.holds Try.pinned (OpenSpec.upto tutteCrapoSpec)

end Rows
end Go.Proofs.Ytdhbpoafkhojnaa
