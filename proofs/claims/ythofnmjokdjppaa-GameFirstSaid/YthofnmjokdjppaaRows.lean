/-
  No cell of these rows narrows 'for every input' (looked for: loops, veiled, ifaces, maps, wideKeys, modest, calm, conditions, laid).
  DERIVED. THE GIVEN ROWS OF THIS SEAT. 6 by the template 'for every input the law returns true; each argument reads behind the call as it read before'; 0 by the template 'total and deterministic' (their statements: YthofnmjokdjppaaTotals.lean).
  GIVEN WITH THE SEED: the statements are not yours to turn. If you find one false, say at which input.
  Laid BY PROGRAM, IN A SANDBOX (cutbox-rows.mjs): the forced cells as the released guide's own fill.sh prints them over the translation e56a0fe626f43d12… (all of the seat's roots in one cut). By AI agents, Wed Nov 11 2026. No macro, syntax, notation, axiom, sorry.
-/
import Derived.Test.YthofnmjokdjppaaChecked
import GoSem.Claim
import GoSem.ClaimJoined
import GoSem.ClaimMapViews
import Derived.JoinedTies
import Derived.KernelRfl
namespace Go.Proofs.Ythofnmjokdjppaa
/- THE CELL 'sum', in the pinned program and in every row, IS THE sha256 OF THE DUMP (.gsa) THAT YthofnmjokdjppaaProg.lean LOADS. Nothing in Lean hashes anything: it is a label: what it is worth is what the hold of that sum in a sandbox is worth. -/
noncomputable def Try.pinned : Pinned := { name := "ythofnmjokdjppaa", sum := "e56a0fe626f43d12dddf6f656faadb08ef9febbdd4ed5ee48d9d44e620b3675e", checked := Try.checked }
namespace Rows
def none {H : Type} : Left H := { results := [], args := [] }

/-- 'rotakeep.SameChain': WHATEVER THE INPUT: true; the input reads as it did. -/
def sameChainSpec : ChangeSpec := { name := "sameChain", fn := fun _ => fun
  | [d1, d2, d3] => { results := [.lit (.bool true)], args := [d1, d2, d3] }
  | _ => none }
def sameChainRow : OpenClaim := { program := "ythofnmjokdjppaa", sum := "e56a0fe626f43d12dddf6f656faadb08ef9febbdd4ed5ee48d9d44e620b3675e", func := "rota/rotakeep.SameChain", spec := "sameChain", unfollowed := true, recurses := true, plainKeys := false, apart := false }
def SameChainSaid : Prop := sameChainRow.holds Try.pinned (OpenSpec.ofChange sameChainSpec)

/-- ITS FALSE NEIGHBOUR: 'it returns false'. Refute it at one input. -/
def sameChainWrong : ChangeSpec := { name := "sameChain", fn := fun _ => fun
  | [d1, d2, d3] => { results := [.lit (.bool false)], args := [d1, d2, d3] }
  | _ => none }
def SameChainWrongFalsely : Prop := sameChainRow.holds Try.pinned (OpenSpec.ofChange sameChainWrong)

/-- 'rotakeep.SameMinors': WHATEVER THE INPUT: true; the input reads as it did. -/
def sameMinorsSpec : ChangeSpec := { name := "sameMinors", fn := fun _ => fun
  | [d1, d2, d3, d4] => { results := [.lit (.bool true)], args := [d1, d2, d3, d4] }
  | _ => none }
def sameMinorsRow : OpenClaim := { program := "ythofnmjokdjppaa", sum := "e56a0fe626f43d12dddf6f656faadb08ef9febbdd4ed5ee48d9d44e620b3675e", func := "rota/rotakeep.SameMinors", spec := "sameMinors", unfollowed := true, recurses := true, plainKeys := false, apart := false }
def SameMinorsSaid : Prop := sameMinorsRow.holds Try.pinned (OpenSpec.ofChange sameMinorsSpec)

/-- ITS FALSE NEIGHBOUR: 'it returns false'. Refute it at one input. -/
def sameMinorsWrong : ChangeSpec := { name := "sameMinors", fn := fun _ => fun
  | [d1, d2, d3, d4] => { results := [.lit (.bool false)], args := [d1, d2, d3, d4] }
  | _ => none }
def SameMinorsWrongFalsely : Prop := sameMinorsRow.holds Try.pinned (OpenSpec.ofChange sameMinorsWrong)

/-- 'rotakeep.SameIs': WHATEVER THE INPUT: true; the input reads as it did. -/
def sameIsSpec : ChangeSpec := { name := "sameIs", fn := fun _ => fun
  | [d1, d2] => { results := [.lit (.bool true)], args := [d1, d2] }
  | _ => none }
def sameIsRow : OpenClaim := { program := "ythofnmjokdjppaa", sum := "e56a0fe626f43d12dddf6f656faadb08ef9febbdd4ed5ee48d9d44e620b3675e", func := "rota/rotakeep.SameIs", spec := "sameIs", unfollowed := true, recurses := true, plainKeys := false, apart := false }
def SameIsSaid : Prop := sameIsRow.holds Try.pinned (OpenSpec.ofChange sameIsSpec)

/-- ITS FALSE NEIGHBOUR: 'it returns false'. Refute it at one input. -/
def sameIsWrong : ChangeSpec := { name := "sameIs", fn := fun _ => fun
  | [d1, d2] => { results := [.lit (.bool false)], args := [d1, d2] }
  | _ => none }
def SameIsWrongFalsely : Prop := sameIsRow.holds Try.pinned (OpenSpec.ofChange sameIsWrong)

/-- 'rotakeep.GameMoves': WHATEVER THE INPUT: true; the input reads as it did. -/
def gameMovesSpec : ChangeSpec := { name := "gameMoves", fn := fun _ => fun
  | [d1, d2, d3, d4, d5, d6] => { results := [.lit (.bool true)], args := [d1, d2, d3, d4, d5, d6] }
  | _ => none }
def gameMovesRow : OpenClaim := { program := "ythofnmjokdjppaa", sum := "e56a0fe626f43d12dddf6f656faadb08ef9febbdd4ed5ee48d9d44e620b3675e", func := "rota/rotakeep.GameMoves", spec := "gameMoves", recurses := true, plainKeys := false, apart := false }
def GameMovesSaid : Prop := gameMovesRow.holds Try.pinned (OpenSpec.ofChange gameMovesSpec)

/-- ITS FALSE NEIGHBOUR: 'it returns false'. Refute it at one input. -/
def gameMovesWrong : ChangeSpec := { name := "gameMoves", fn := fun _ => fun
  | [d1, d2, d3, d4, d5, d6] => { results := [.lit (.bool false)], args := [d1, d2, d3, d4, d5, d6] }
  | _ => none }
def GameMovesWrongFalsely : Prop := gameMovesRow.holds Try.pinned (OpenSpec.ofChange gameMovesWrong)

/-- 'rotakeep.GameFirst': WHATEVER THE INPUT: true; the input reads as it did. -/
def gameFirstSpec : ChangeSpec := { name := "gameFirst", fn := fun _ => fun
  | [d1, d2, d3] => { results := [.lit (.bool true)], args := [d1, d2, d3] }
  | _ => none }
def gameFirstRow : OpenClaim := { program := "ythofnmjokdjppaa", sum := "e56a0fe626f43d12dddf6f656faadb08ef9febbdd4ed5ee48d9d44e620b3675e", func := "rota/rotakeep.GameFirst", spec := "gameFirst", recurses := true, plainKeys := false, apart := false }
def GameFirstSaid : Prop := gameFirstRow.holds Try.pinned (OpenSpec.ofChange gameFirstSpec)

/-- ITS FALSE NEIGHBOUR: 'it returns false'. Refute it at one input. -/
def gameFirstWrong : ChangeSpec := { name := "gameFirst", fn := fun _ => fun
  | [d1, d2, d3] => { results := [.lit (.bool false)], args := [d1, d2, d3] }
  | _ => none }
def GameFirstWrongFalsely : Prop := gameFirstRow.holds Try.pinned (OpenSpec.ofChange gameFirstWrong)

/-- 'rotakeep.GameLehman': WHATEVER THE INPUT: true; the input reads as it did. -/
def gameLehmanSpec : ChangeSpec := { name := "gameLehman", fn := fun _ => fun
  | [d1, d2, d3] => { results := [.lit (.bool true)], args := [d1, d2, d3] }
  | _ => none }
def gameLehmanRow : OpenClaim := { program := "ythofnmjokdjppaa", sum := "e56a0fe626f43d12dddf6f656faadb08ef9febbdd4ed5ee48d9d44e620b3675e", func := "rota/rotakeep.GameLehman", spec := "gameLehman", recurses := true, plainKeys := false, apart := false }
def GameLehmanSaid : Prop := gameLehmanRow.holds Try.pinned (OpenSpec.ofChange gameLehmanSpec)

/-- ITS FALSE NEIGHBOUR: 'it returns false'. Refute it at one input. -/
def gameLehmanWrong : ChangeSpec := { name := "gameLehman", fn := fun _ => fun
  | [d1, d2, d3] => { results := [.lit (.bool false)], args := [d1, d2, d3] }
  | _ => none }
def GameLehmanWrongFalsely : Prop := gameLehmanRow.holds Try.pinned (OpenSpec.ofChange gameLehmanWrong)

/- THE SECOND FORM. 'bulk': how many values and letters a reading holds, each counted each time it is reached (what is shared counts as often as it is met; a slice's spare places count too). A statement '..UptoSaid' is the law's where the arguments, and the package variables that the reading takes, are together of bulk at most 1048576: NARROWER than '..Said'. Prove '..Said' where nothing that the law and all that it calls make is longer than what came in: it says more and counts as full. Else prove '..UptoSaid'. A law counts once. -/
mutual
def uptoBulk {H : Type} : DataW H → Nat
  | .lit (.string bytes) => bytes.length + 1
  | .lit _ => 1
  | .nil => 1
  | .ptr d => uptoBulk d + 1
  | .slice elems spare => uptoBulkAll elems + uptoBulkAll spare + 1
  | .agg parts => uptoBulkAll parts + 1
  | .iface _ d => uptoBulk d + 1
  | .map entries => uptoBulkEntries entries + 1
  | .held _ => 1
def uptoBulkAll {H : Type} : List (DataW H) → Nat
  | [] => 0
  | d :: r => uptoBulk d + uptoBulkAll r
def uptoBulkEntries {H : Type} : List (Lit × DataW H) → Nat
  | [] => 0
  | x :: r => uptoBulkEntry x + uptoBulkEntries r
def uptoBulkEntry {H : Type} : Lit × DataW H → Nat
  | (.string bytes, d) => bytes.length + uptoBulk d + 1
  | (_, d) => uptoBulk d + 1
 end
def uptoSmall : (H : Type) → List (DataW H) → Bool := fun _ ds => decide (uptoBulkAll ds ≤ 1048576)
def OpenSpec.upto (s : _root_.Go.ChangeSpec) : _root_.Go.OpenSpec := { _root_.Go.OpenSpec.ofChange s with cond := some uptoSmall }

/-- 'rotakeep.SameChain', WHERE WHAT IT READS IS OF BULK AT MOST 1048576: true; the input reads as it did. -/
def sameChainUptoRow : OpenClaim := { program := "ythofnmjokdjppaa", sum := "e56a0fe626f43d12dddf6f656faadb08ef9febbdd4ed5ee48d9d44e620b3675e", func := "rota/rotakeep.SameChain", spec := "sameChain", unfollowed := true, recurses := true, plainKeys := false, apart := false, narrowed := true }
def SameChainUptoSaid : Prop := sameChainUptoRow.holds Try.pinned (OpenSpec.upto sameChainSpec)

/-- 'rotakeep.SameMinors', WHERE WHAT IT READS IS OF BULK AT MOST 1048576: true; the input reads as it did. -/
def sameMinorsUptoRow : OpenClaim := { program := "ythofnmjokdjppaa", sum := "e56a0fe626f43d12dddf6f656faadb08ef9febbdd4ed5ee48d9d44e620b3675e", func := "rota/rotakeep.SameMinors", spec := "sameMinors", unfollowed := true, recurses := true, plainKeys := false, apart := false, narrowed := true }
def SameMinorsUptoSaid : Prop := sameMinorsUptoRow.holds Try.pinned (OpenSpec.upto sameMinorsSpec)

/-- 'rotakeep.SameIs', WHERE WHAT IT READS IS OF BULK AT MOST 1048576: true; the input reads as it did. -/
def sameIsUptoRow : OpenClaim := { program := "ythofnmjokdjppaa", sum := "e56a0fe626f43d12dddf6f656faadb08ef9febbdd4ed5ee48d9d44e620b3675e", func := "rota/rotakeep.SameIs", spec := "sameIs", unfollowed := true, recurses := true, plainKeys := false, apart := false, narrowed := true }
def SameIsUptoSaid : Prop := sameIsUptoRow.holds Try.pinned (OpenSpec.upto sameIsSpec)

/-- 'rotakeep.GameMoves', WHERE WHAT IT READS IS OF BULK AT MOST 1048576: true; the input reads as it did. -/
def gameMovesUptoRow : OpenClaim := { program := "ythofnmjokdjppaa", sum := "e56a0fe626f43d12dddf6f656faadb08ef9febbdd4ed5ee48d9d44e620b3675e", func := "rota/rotakeep.GameMoves", spec := "gameMoves", recurses := true, plainKeys := false, apart := false, narrowed := true }
def GameMovesUptoSaid : Prop := gameMovesUptoRow.holds Try.pinned (OpenSpec.upto gameMovesSpec)

/-- 'rotakeep.GameFirst', WHERE WHAT IT READS IS OF BULK AT MOST 1048576: true; the input reads as it did. -/
def gameFirstUptoRow : OpenClaim := { program := "ythofnmjokdjppaa", sum := "e56a0fe626f43d12dddf6f656faadb08ef9febbdd4ed5ee48d9d44e620b3675e", func := "rota/rotakeep.GameFirst", spec := "gameFirst", recurses := true, plainKeys := false, apart := false, narrowed := true }
def GameFirstUptoSaid : Prop := gameFirstUptoRow.holds Try.pinned (OpenSpec.upto gameFirstSpec)

/-- 'rotakeep.GameLehman', WHERE WHAT IT READS IS OF BULK AT MOST 1048576: true; the input reads as it did. -/
def gameLehmanUptoRow : OpenClaim := { program := "ythofnmjokdjppaa", sum := "e56a0fe626f43d12dddf6f656faadb08ef9febbdd4ed5ee48d9d44e620b3675e", func := "rota/rotakeep.GameLehman", spec := "gameLehman", recurses := true, plainKeys := false, apart := false, narrowed := true }
def GameLehmanUptoSaid : Prop := gameLehmanUptoRow.holds Try.pinned (OpenSpec.upto gameLehmanSpec)

end Rows
end Go.Proofs.Ythofnmjokdjppaa
