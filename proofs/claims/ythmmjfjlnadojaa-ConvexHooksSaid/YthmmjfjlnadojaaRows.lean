/-
  No cell of these rows narrows 'for every input' (looked for: loops, veiled, ifaces, maps, wideKeys, modest, calm, conditions, laid).
  DERIVED. THE GIVEN ROWS OF THIS SEAT. 11 by the template 'for every input the law returns true; each argument reads behind the call as it read before'; 0 by the template 'total and deterministic' (their statements: YthmmjfjlnadojaaTotals.lean).
  GIVEN WITH THE SEED: the statements are not yours to turn. If you find one false, say at which input.
  Laid BY PROGRAM, IN A SANDBOX (cutbox-rows.mjs): the forced cells as the released guide's own fill.sh prints them over the translation 7ad55029bcbcadff… (all of the seat's roots in one cut). By AI agents, Wed Nov 11 2026. No macro, syntax, notation, axiom, sorry.
-/
import Derived.Test.YthmmjfjlnadojaaChecked
import GoSem.Claim
import GoSem.ClaimJoined
import GoSem.ClaimMapViews
import Derived.JoinedTies
import Derived.KernelRfl
namespace Go.Proofs.Ythmmjfjlnadojaa
/- THE CELL 'sum', in the pinned program and in every row, IS THE sha256 OF THE DUMP (.gsa) THAT YthmmjfjlnadojaaProg.lean LOADS. Nothing in Lean hashes anything: it is a label: what it is worth is what the hold of that sum in a sandbox is worth. -/
noncomputable def Try.pinned : Pinned := { name := "ythmmjfjlnadojaa", sum := "7ad55029bcbcadfff5bc3f127e154a2c8b6d84704b010160d95624fa5efa4f55", checked := Try.checked }
namespace Rows
def none {H : Type} : Left H := { results := [], args := [] }

/-- 'rotakeep.SetsBack': WHATEVER THE INPUT: true; the input reads as it did. -/
def setsBackSpec : ChangeSpec := { name := "setsBack", fn := fun _ => fun
  | [d1, d2] => { results := [.lit (.bool true)], args := [d1, d2] }
  | _ => none }
def setsBackRow : OpenClaim := { program := "ythmmjfjlnadojaa", sum := "7ad55029bcbcadfff5bc3f127e154a2c8b6d84704b010160d95624fa5efa4f55", func := "rota/rotakeep.SetsBack", spec := "setsBack", plainKeys := false, apart := false }
def SetsBackSaid : Prop := setsBackRow.holds Try.pinned (OpenSpec.ofChange setsBackSpec)

/-- ITS FALSE NEIGHBOUR: 'it returns false'. Refute it at one input. -/
def setsBackWrong : ChangeSpec := { name := "setsBack", fn := fun _ => fun
  | [d1, d2] => { results := [.lit (.bool false)], args := [d1, d2] }
  | _ => none }
def SetsBackWrongFalsely : Prop := setsBackRow.holds Try.pinned (OpenSpec.ofChange setsBackWrong)

/-- 'rotakeep.SetsSperner': WHATEVER THE INPUT: true; the input reads as it did. -/
def setsSpernerSpec : ChangeSpec := { name := "setsSperner", fn := fun _ => fun
  | [d1, d2] => { results := [.lit (.bool true)], args := [d1, d2] }
  | _ => none }
def setsSpernerRow : OpenClaim := { program := "ythmmjfjlnadojaa", sum := "7ad55029bcbcadfff5bc3f127e154a2c8b6d84704b010160d95624fa5efa4f55", func := "rota/rotakeep.SetsSperner", spec := "setsSperner", unfollowed := true, recurses := true, plainKeys := false, apart := false }
def SetsSpernerSaid : Prop := setsSpernerRow.holds Try.pinned (OpenSpec.ofChange setsSpernerSpec)

/-- ITS FALSE NEIGHBOUR: 'it returns false'. Refute it at one input. -/
def setsSpernerWrong : ChangeSpec := { name := "setsSperner", fn := fun _ => fun
  | [d1, d2] => { results := [.lit (.bool false)], args := [d1, d2] }
  | _ => none }
def SetsSpernerWrongFalsely : Prop := setsSpernerRow.holds Try.pinned (OpenSpec.ofChange setsSpernerWrong)

/-- 'rotakeep.SubAdds': WHATEVER THE INPUT: true; the input reads as it did. -/
def subAddsSpec : ChangeSpec := { name := "subAdds", fn := fun _ => fun
  | [d1, d2, d3] => { results := [.lit (.bool true)], args := [d1, d2, d3] }
  | _ => none }
def subAddsRow : OpenClaim := { program := "ythmmjfjlnadojaa", sum := "7ad55029bcbcadfff5bc3f127e154a2c8b6d84704b010160d95624fa5efa4f55", func := "rota/rotakeep.SubAdds", spec := "subAdds", plainKeys := false, apart := false }
def SubAddsSaid : Prop := subAddsRow.holds Try.pinned (OpenSpec.ofChange subAddsSpec)

/-- ITS FALSE NEIGHBOUR: 'it returns false'. Refute it at one input. -/
def subAddsWrong : ChangeSpec := { name := "subAdds", fn := fun _ => fun
  | [d1, d2, d3] => { results := [.lit (.bool false)], args := [d1, d2, d3] }
  | _ => none }
def SubAddsWrongFalsely : Prop := subAddsRow.holds Try.pinned (OpenSpec.ofChange subAddsWrong)

/-- 'rotakeep.SetsGale': WHATEVER THE INPUT: true; the input reads as it did. -/
def setsGaleSpec : ChangeSpec := { name := "setsGale", fn := fun _ => fun
  | [d1, d2, d3] => { results := [.lit (.bool true)], args := [d1, d2, d3] }
  | _ => none }
def setsGaleRow : OpenClaim := { program := "ythmmjfjlnadojaa", sum := "7ad55029bcbcadfff5bc3f127e154a2c8b6d84704b010160d95624fa5efa4f55", func := "rota/rotakeep.SetsGale", spec := "setsGale", plainKeys := false, apart := false }
def SetsGaleSaid : Prop := setsGaleRow.holds Try.pinned (OpenSpec.ofChange setsGaleSpec)

/-- ITS FALSE NEIGHBOUR: 'it returns false'. Refute it at one input. -/
def setsGaleWrong : ChangeSpec := { name := "setsGale", fn := fun _ => fun
  | [d1, d2, d3] => { results := [.lit (.bool false)], args := [d1, d2, d3] }
  | _ => none }
def SetsGaleWrongFalsely : Prop := setsGaleRow.holds Try.pinned (OpenSpec.ofChange setsGaleWrong)

/-- 'rotakeep.SubWeak': WHATEVER THE INPUT: true; the input reads as it did. -/
def subWeakSpec : ChangeSpec := { name := "subWeak", fn := fun _ => fun
  | [d1, d2, d3] => { results := [.lit (.bool true)], args := [d1, d2, d3] }
  | _ => none }
def subWeakRow : OpenClaim := { program := "ythmmjfjlnadojaa", sum := "7ad55029bcbcadfff5bc3f127e154a2c8b6d84704b010160d95624fa5efa4f55", func := "rota/rotakeep.SubWeak", spec := "subWeak", plainKeys := false, apart := false }
def SubWeakSaid : Prop := subWeakRow.holds Try.pinned (OpenSpec.ofChange subWeakSpec)

/-- ITS FALSE NEIGHBOUR: 'it returns false'. Refute it at one input. -/
def subWeakWrong : ChangeSpec := { name := "subWeak", fn := fun _ => fun
  | [d1, d2, d3] => { results := [.lit (.bool false)], args := [d1, d2, d3] }
  | _ => none }
def SubWeakWrongFalsely : Prop := subWeakRow.holds Try.pinned (OpenSpec.ofChange subWeakWrong)

/-- 'rotakeep.GameMoves': WHATEVER THE INPUT: true; the input reads as it did. -/
def gameMovesSpec : ChangeSpec := { name := "gameMoves", fn := fun _ => fun
  | [d1, d2, d3, d4, d5, d6] => { results := [.lit (.bool true)], args := [d1, d2, d3, d4, d5, d6] }
  | _ => none }
def gameMovesRow : OpenClaim := { program := "ythmmjfjlnadojaa", sum := "7ad55029bcbcadfff5bc3f127e154a2c8b6d84704b010160d95624fa5efa4f55", func := "rota/rotakeep.GameMoves", spec := "gameMoves", recurses := true, plainKeys := false, apart := false }
def GameMovesSaid : Prop := gameMovesRow.holds Try.pinned (OpenSpec.ofChange gameMovesSpec)

/-- ITS FALSE NEIGHBOUR: 'it returns false'. Refute it at one input. -/
def gameMovesWrong : ChangeSpec := { name := "gameMoves", fn := fun _ => fun
  | [d1, d2, d3, d4, d5, d6] => { results := [.lit (.bool false)], args := [d1, d2, d3, d4, d5, d6] }
  | _ => none }
def GameMovesWrongFalsely : Prop := gameMovesRow.holds Try.pinned (OpenSpec.ofChange gameMovesWrong)

/-- 'rotakeep.FieldProducts': WHATEVER THE INPUT: true; the input reads as it did. -/
def fieldProductsSpec : ChangeSpec := { name := "fieldProducts", fn := fun _ => fun
  | [d1, d2] => { results := [.lit (.bool true)], args := [d1, d2] }
  | _ => none }
def fieldProductsRow : OpenClaim := { program := "ythmmjfjlnadojaa", sum := "7ad55029bcbcadfff5bc3f127e154a2c8b6d84704b010160d95624fa5efa4f55", func := "rota/rotakeep.FieldProducts", spec := "fieldProducts", plainKeys := false, apart := false }
def FieldProductsSaid : Prop := fieldProductsRow.holds Try.pinned (OpenSpec.ofChange fieldProductsSpec)

/-- ITS FALSE NEIGHBOUR: 'it returns false'. Refute it at one input. -/
def fieldProductsWrong : ChangeSpec := { name := "fieldProducts", fn := fun _ => fun
  | [d1, d2] => { results := [.lit (.bool false)], args := [d1, d2] }
  | _ => none }
def FieldProductsWrongFalsely : Prop := fieldProductsRow.holds Try.pinned (OpenSpec.ofChange fieldProductsWrong)

/-- 'rotakeep.ConvexHooks': WHATEVER THE INPUT: true; the input reads as it did. -/
def convexHooksSpec : ChangeSpec := { name := "convexHooks", fn := fun _ => fun
  | [d] => { results := [.lit (.bool true)], args := [d] }
  | _ => none }
def convexHooksRow : OpenClaim := { program := "ythmmjfjlnadojaa", sum := "7ad55029bcbcadfff5bc3f127e154a2c8b6d84704b010160d95624fa5efa4f55", func := "rota/rotakeep.ConvexHooks", spec := "convexHooks", unfollowed := true, recurses := true, plainKeys := false, apart := false }
def ConvexHooksSaid : Prop := convexHooksRow.holds Try.pinned (OpenSpec.ofChange convexHooksSpec)

/-- ITS FALSE NEIGHBOUR: 'it returns false'. Refute it at one input. -/
def convexHooksWrong : ChangeSpec := { name := "convexHooks", fn := fun _ => fun
  | [d] => { results := [.lit (.bool false)], args := [d] }
  | _ => none }
def ConvexHooksWrongFalsely : Prop := convexHooksRow.holds Try.pinned (OpenSpec.ofChange convexHooksWrong)

/-- 'rotakeep.ComplexKruskal': WHATEVER THE INPUT: true; the input reads as it did. -/
def complexKruskalSpec : ChangeSpec := { name := "complexKruskal", fn := fun _ => fun
  | [d1, d2] => { results := [.lit (.bool true)], args := [d1, d2] }
  | _ => none }
def complexKruskalRow : OpenClaim := { program := "ythmmjfjlnadojaa", sum := "7ad55029bcbcadfff5bc3f127e154a2c8b6d84704b010160d95624fa5efa4f55", func := "rota/rotakeep.ComplexKruskal", spec := "complexKruskal", unfollowed := true, recurses := true, plainKeys := false, apart := false }
def ComplexKruskalSaid : Prop := complexKruskalRow.holds Try.pinned (OpenSpec.ofChange complexKruskalSpec)

/-- ITS FALSE NEIGHBOUR: 'it returns false'. Refute it at one input. -/
def complexKruskalWrong : ChangeSpec := { name := "complexKruskal", fn := fun _ => fun
  | [d1, d2] => { results := [.lit (.bool false)], args := [d1, d2] }
  | _ => none }
def ComplexKruskalWrongFalsely : Prop := complexKruskalRow.holds Try.pinned (OpenSpec.ofChange complexKruskalWrong)

/-- 'rotakeep.ConvexJamison': WHATEVER THE INPUT: true; the input reads as it did. -/
def convexJamisonSpec : ChangeSpec := { name := "convexJamison", fn := fun _ => fun
  | [d1, d2, d3] => { results := [.lit (.bool true)], args := [d1, d2, d3] }
  | _ => none }
def convexJamisonRow : OpenClaim := { program := "ythmmjfjlnadojaa", sum := "7ad55029bcbcadfff5bc3f127e154a2c8b6d84704b010160d95624fa5efa4f55", func := "rota/rotakeep.ConvexJamison", spec := "convexJamison", plainKeys := false, apart := false }
def ConvexJamisonSaid : Prop := convexJamisonRow.holds Try.pinned (OpenSpec.ofChange convexJamisonSpec)

/-- ITS FALSE NEIGHBOUR: 'it returns false'. Refute it at one input. -/
def convexJamisonWrong : ChangeSpec := { name := "convexJamison", fn := fun _ => fun
  | [d1, d2, d3] => { results := [.lit (.bool false)], args := [d1, d2, d3] }
  | _ => none }
def ConvexJamisonWrongFalsely : Prop := convexJamisonRow.holds Try.pinned (OpenSpec.ofChange convexJamisonWrong)

/-- 'rotakeep.FieldRing': WHATEVER THE INPUT: true; the input reads as it did. -/
def fieldRingSpec : ChangeSpec := { name := "fieldRing", fn := fun _ => fun
  | [d1, d2, d3] => { results := [.lit (.bool true)], args := [d1, d2, d3] }
  | _ => none }
def fieldRingRow : OpenClaim := { program := "ythmmjfjlnadojaa", sum := "7ad55029bcbcadfff5bc3f127e154a2c8b6d84704b010160d95624fa5efa4f55", func := "rota/rotakeep.FieldRing", spec := "fieldRing", plainKeys := false, apart := false }
def FieldRingSaid : Prop := fieldRingRow.holds Try.pinned (OpenSpec.ofChange fieldRingSpec)

/-- ITS FALSE NEIGHBOUR: 'it returns false'. Refute it at one input. -/
def fieldRingWrong : ChangeSpec := { name := "fieldRing", fn := fun _ => fun
  | [d1, d2, d3] => { results := [.lit (.bool false)], args := [d1, d2, d3] }
  | _ => none }
def FieldRingWrongFalsely : Prop := fieldRingRow.holds Try.pinned (OpenSpec.ofChange fieldRingWrong)

/- THE SECOND FORM. 'bulk': how many values and letters a reading holds, each counted each time it is reached (what is shared counts as often as it is met; a slice's spare places count too). A statement '..UptoSaid' is the law's where the arguments, and the package variables that the reading takes, are together of bulk at most 1048576: NARROWER than '..Said'. Prove '..Said' where nothing that the law and all that it calls make is longer than what came in: it says more and counts as full. Else prove '..UptoSaid'. A law counts once. -/
mutual
def uptoBulk {H : Type} : DataW H → Nat
  | .lit (.string bytes) => bytes.length + 1
  | .lit _ => 1
  | .nil => 1
  | .ptr d => uptoBulk d + 1
  | .slice elems spare => uptoBulkAll elems + uptoBulkAll spare + 1
  | .agg parts => uptoBulkAll parts + 1
  | .iface _ d => uptoBulk d + 1
  | .map entries => uptoBulkEntries entries + 1
  | .held _ => 1
def uptoBulkAll {H : Type} : List (DataW H) → Nat
  | [] => 0
  | d :: r => uptoBulk d + uptoBulkAll r
def uptoBulkEntries {H : Type} : List (Lit × DataW H) → Nat
  | [] => 0
  | x :: r => uptoBulkEntry x + uptoBulkEntries r
def uptoBulkEntry {H : Type} : Lit × DataW H → Nat
  | (.string bytes, d) => bytes.length + uptoBulk d + 1
  | (_, d) => uptoBulk d + 1
 end
def uptoSmall : (H : Type) → List (DataW H) → Bool := fun _ ds => decide (uptoBulkAll ds ≤ 1048576)
def OpenSpec.upto (s : _root_.Go.ChangeSpec) : _root_.Go.OpenSpec := { _root_.Go.OpenSpec.ofChange s with cond := some uptoSmall }

/-- 'rotakeep.SetsBack', WHERE WHAT IT READS IS OF BULK AT MOST 1048576: true; the input reads as it did. -/
def setsBackUptoRow : OpenClaim := { program := "ythmmjfjlnadojaa", sum := "7ad55029bcbcadfff5bc3f127e154a2c8b6d84704b010160d95624fa5efa4f55", func := "rota/rotakeep.SetsBack", spec := "setsBack", plainKeys := false, apart := false, narrowed := true }
def SetsBackUptoSaid : Prop := setsBackUptoRow.holds Try.pinned (OpenSpec.upto setsBackSpec)

/-- 'rotakeep.SetsSperner', WHERE WHAT IT READS IS OF BULK AT MOST 1048576: true; the input reads as it did. -/
def setsSpernerUptoRow : OpenClaim := { program := "ythmmjfjlnadojaa", sum := "7ad55029bcbcadfff5bc3f127e154a2c8b6d84704b010160d95624fa5efa4f55", func := "rota/rotakeep.SetsSperner", spec := "setsSperner", unfollowed := true, recurses := true, plainKeys := false, apart := false, narrowed := true }
def SetsSpernerUptoSaid : Prop := setsSpernerUptoRow.holds Try.pinned (OpenSpec.upto setsSpernerSpec)

/-- 'rotakeep.SubAdds', WHERE WHAT IT READS IS OF BULK AT MOST 1048576: true; the input reads as it did. -/
def subAddsUptoRow : OpenClaim := { program := "ythmmjfjlnadojaa", sum := "7ad55029bcbcadfff5bc3f127e154a2c8b6d84704b010160d95624fa5efa4f55", func := "rota/rotakeep.SubAdds", spec := "subAdds", plainKeys := false, apart := false, narrowed := true }
def SubAddsUptoSaid : Prop := subAddsUptoRow.holds Try.pinned (OpenSpec.upto subAddsSpec)

/-- 'rotakeep.SetsGale', WHERE WHAT IT READS IS OF BULK AT MOST 1048576: true; the input reads as it did. -/
def setsGaleUptoRow : OpenClaim := { program := "ythmmjfjlnadojaa", sum := "7ad55029bcbcadfff5bc3f127e154a2c8b6d84704b010160d95624fa5efa4f55", func := "rota/rotakeep.SetsGale", spec := "setsGale", plainKeys := false, apart := false, narrowed := true }
def SetsGaleUptoSaid : Prop := setsGaleUptoRow.holds Try.pinned (OpenSpec.upto setsGaleSpec)

/-- 'rotakeep.SubWeak', WHERE WHAT IT READS IS OF BULK AT MOST 1048576: true; the input reads as it did. -/
def subWeakUptoRow : OpenClaim := { program := "ythmmjfjlnadojaa", sum := "7ad55029bcbcadfff5bc3f127e154a2c8b6d84704b010160d95624fa5efa4f55", func := "rota/rotakeep.SubWeak", spec := "subWeak", plainKeys := false, apart := false, narrowed := true }
def SubWeakUptoSaid : Prop := subWeakUptoRow.holds Try.pinned (OpenSpec.upto subWeakSpec)

/-- 'rotakeep.GameMoves', WHERE WHAT IT READS IS OF BULK AT MOST 1048576: true; the input reads as it did. -/
def gameMovesUptoRow : OpenClaim := { program := "ythmmjfjlnadojaa", sum := "7ad55029bcbcadfff5bc3f127e154a2c8b6d84704b010160d95624fa5efa4f55", func := "rota/rotakeep.GameMoves", spec := "gameMoves", recurses := true, plainKeys := false, apart := false, narrowed := true }
def GameMovesUptoSaid : Prop := gameMovesUptoRow.holds Try.pinned (OpenSpec.upto gameMovesSpec)

/-- 'rotakeep.FieldProducts', WHERE WHAT IT READS IS OF BULK AT MOST 1048576: true; the input reads as it did. -/
def fieldProductsUptoRow : OpenClaim := { program := "ythmmjfjlnadojaa", sum := "7ad55029bcbcadfff5bc3f127e154a2c8b6d84704b010160d95624fa5efa4f55", func := "rota/rotakeep.FieldProducts", spec := "fieldProducts", plainKeys := false, apart := false, narrowed := true }
def FieldProductsUptoSaid : Prop := fieldProductsUptoRow.holds Try.pinned (OpenSpec.upto fieldProductsSpec)

/-- 'rotakeep.ConvexHooks', WHERE WHAT IT READS IS OF BULK AT MOST 1048576: true; the input reads as it did. -/
def convexHooksUptoRow : OpenClaim := { program := "ythmmjfjlnadojaa", sum := "7ad55029bcbcadfff5bc3f127e154a2c8b6d84704b010160d95624fa5efa4f55", func := "rota/rotakeep.ConvexHooks", spec := "convexHooks", unfollowed := true, recurses := true, plainKeys := false, apart := false, narrowed := true }
def ConvexHooksUptoSaid : Prop := convexHooksUptoRow.holds Try.pinned (OpenSpec.upto convexHooksSpec)

/-- 'rotakeep.ComplexKruskal', WHERE WHAT IT READS IS OF BULK AT MOST 1048576: true; the input reads as it did. -/
def complexKruskalUptoRow : OpenClaim := { program := "ythmmjfjlnadojaa", sum := "7ad55029bcbcadfff5bc3f127e154a2c8b6d84704b010160d95624fa5efa4f55", func := "rota/rotakeep.ComplexKruskal", spec := "complexKruskal", unfollowed := true, recurses := true, plainKeys := false, apart := false, narrowed := true }
def ComplexKruskalUptoSaid : Prop := complexKruskalUptoRow.holds Try.pinned (OpenSpec.upto complexKruskalSpec)

/-- 'rotakeep.ConvexJamison', WHERE WHAT IT READS IS OF BULK AT MOST 1048576: true; the input reads as it did. -/
def convexJamisonUptoRow : OpenClaim := { program := "ythmmjfjlnadojaa", sum := "7ad55029bcbcadfff5bc3f127e154a2c8b6d84704b010160d95624fa5efa4f55", func := "rota/rotakeep.ConvexJamison", spec := "convexJamison", plainKeys := false, apart := false, narrowed := true }
def ConvexJamisonUptoSaid : Prop := convexJamisonUptoRow.holds Try.pinned (OpenSpec.upto convexJamisonSpec)

/-- 'rotakeep.FieldRing', WHERE WHAT IT READS IS OF BULK AT MOST 1048576: true; the input reads as it did. -/
def fieldRingUptoRow : OpenClaim := { program := "ythmmjfjlnadojaa", sum := "7ad55029bcbcadfff5bc3f127e154a2c8b6d84704b010160d95624fa5efa4f55", func := "rota/rotakeep.FieldRing", spec := "fieldRing", plainKeys := false, apart := false, narrowed := true }
def FieldRingUptoSaid : Prop := fieldRingUptoRow.holds Try.pinned (OpenSpec.upto fieldRingSpec)

end Rows
end Go.Proofs.Ythmmjfjlnadojaa
