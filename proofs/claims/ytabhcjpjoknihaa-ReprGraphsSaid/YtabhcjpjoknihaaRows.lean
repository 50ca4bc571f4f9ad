/-
  No cell of these rows narrows 'for every input' (looked for: loops, veiled, ifaces, maps, wideKeys, modest, calm, conditions, laid).
  DERIVED. THE GIVEN ROWS OF THIS SEAT. 12 by the template 'for every input the law returns true; each argument reads behind the call as it read before'; 0 by the template 'total and deterministic' (their statements: YtabhcjpjoknihaaTotals.lean).
  GIVEN WITH THE SEED: the statements are not yours to turn. If you find one false, say at which input.
  Laid BY PROGRAM, IN A SANDBOX (cutbox-rows.mjs): the forced cells as the released guide's own fill.sh prints them over the translation 16864de6214709e7… (all of the seat's roots in one cut). By AI agents, Wed Nov 11 2026. No macro, syntax, notation, axiom, sorry.
-/
import Derived.Test.YtabhcjpjoknihaaChecked
import GoSem.Claim
import GoSem.ClaimJoined
import GoSem.ClaimMapViews
import Derived.JoinedTies
import Derived.KernelRfl
namespace Go.Proofs.Ytabhcjpjoknihaa
/- THE CELL 'sum', in the pinned program and in every row, IS THE sha256 OF THE DUMP (.gsa) THAT YtabhcjpjoknihaaProg.lean LOADS. Nothing in Lean hashes anything: it is a label: what it is worth is what the hold of that sum in a sandbox is worth. -/
noncomputable def Try.pinned : Pinned := { name := "ytabhcjpjoknihaa", sum := "16864de6214709e7bf76d559a8c3b1f9a637c0dffe86c9c5a37e6114a13999e0", checked := Try.checked }
namespace Rows
def none {H : Type} : Left H := { results := [], args := [] }

/-- 'rotakeep.LinksMenger': WHATEVER THE INPUT: true; the input reads as it did. -/
def linksMengerSpec : ChangeSpec := { name := "linksMenger", fn := fun _ => fun
  | [d1, d2, d3] => { results := [.lit (.bool true)], args := [d1, d2, d3] }
  | _ => none }
def linksMengerRow : OpenClaim := { program := "ytabhcjpjoknihaa", sum := "16864de6214709e7bf76d559a8c3b1f9a637c0dffe86c9c5a37e6114a13999e0", func := "rota/rotakeep.LinksMenger", spec := "linksMenger", unfollowed := true, recurses := true, plainKeys := false, apart := false }
def LinksMengerSaid : Prop := linksMengerRow.holds Try.pinned (OpenSpec.ofChange linksMengerSpec)

/-- ITS FALSE NEIGHBOUR: 'it returns false'. Refute it at one input. -/
def linksMengerWrong : ChangeSpec := { name := "linksMenger", fn := fun _ => fun
  | [d1, d2, d3] => { results := [.lit (.bool false)], args := [d1, d2, d3] }
  | _ => none }
def LinksMengerWrongFalsely : Prop := linksMengerRow.holds Try.pinned (OpenSpec.ofChange linksMengerWrong)

/-- 'rotakeep.CodesBounds': WHATEVER THE INPUT: true; the input reads as it did. -/
def codesBoundsSpec : ChangeSpec := { name := "codesBounds", fn := fun _ => fun
  | [d] => { results := [.lit (.bool true)], args := [d] }
  | _ => none }
def codesBoundsRow : OpenClaim := { program := "ytabhcjpjoknihaa", sum := "16864de6214709e7bf76d559a8c3b1f9a637c0dffe86c9c5a37e6114a13999e0", func := "rota/rotakeep.CodesBounds", spec := "codesBounds", unfollowed := true, recurses := true, plainKeys := false, apart := false }
def CodesBoundsSaid : Prop := codesBoundsRow.holds Try.pinned (OpenSpec.ofChange codesBoundsSpec)

/-- ITS FALSE NEIGHBOUR: 'it returns false'. Refute it at one input. -/
def codesBoundsWrong : ChangeSpec := { name := "codesBounds", fn := fun _ => fun
  | [d] => { results := [.lit (.bool false)], args := [d] }
  | _ => none }
def CodesBoundsWrongFalsely : Prop := codesBoundsRow.holds Try.pinned (OpenSpec.ofChange codesBoundsWrong)

/-- 'rotakeep.CodesCritical': WHATEVER THE INPUT: true; the input reads as it did. -/
def codesCriticalSpec : ChangeSpec := { name := "codesCritical", fn := fun _ => fun
  | [d] => { results := [.lit (.bool true)], args := [d] }
  | _ => none }
def codesCriticalRow : OpenClaim := { program := "ytabhcjpjoknihaa", sum := "16864de6214709e7bf76d559a8c3b1f9a637c0dffe86c9c5a37e6114a13999e0", func := "rota/rotakeep.CodesCritical", spec := "codesCritical", unfollowed := true, recurses := true, plainKeys := false, apart := false }
def CodesCriticalSaid : Prop := codesCriticalRow.holds Try.pinned (OpenSpec.ofChange codesCriticalSpec)

/-- ITS FALSE NEIGHBOUR: 'it returns false'. Refute it at one input. -/
def codesCriticalWrong : ChangeSpec := { name := "codesCritical", fn := fun _ => fun
  | [d] => { results := [.lit (.bool false)], args := [d] }
  | _ => none }
def CodesCriticalWrongFalsely : Prop := codesCriticalRow.holds Try.pinned (OpenSpec.ofChange codesCriticalWrong)

/-- 'rotakeep.TutteCrapo': WHATEVER THE INPUT: true; the input reads as it did. -/
def tutteCrapoSpec : ChangeSpec := { name := "tutteCrapo", fn := fun _ => fun
  | [d] => { results := [.lit (.bool true)], args := [d] }
  | _ => none }
def tutteCrapoRow : OpenClaim := { program := "ytabhcjpjoknihaa", sum := "16864de6214709e7bf76d559a8c3b1f9a637c0dffe86c9c5a37e6114a13999e0", func := "rota/rotakeep.TutteCrapo", spec := "tutteCrapo", unfollowed := true, recurses := true, plainKeys := false, apart := false }
def TutteCrapoSaid : Prop := tutteCrapoRow.holds Try.pinned (OpenSpec.ofChange tutteCrapoSpec)

/-- ITS FALSE NEIGHBOUR: 'it returns false'. Refute it at one input. -/
def tutteCrapoWrong : ChangeSpec := { name := "tutteCrapo", fn := fun _ => fun
  | [d] => { results := [.lit (.bool false)], args := [d] }
  | _ => none }
def TutteCrapoWrongFalsely : Prop := tutteCrapoRow.holds Try.pinned (OpenSpec.ofChange tutteCrapoWrong)

/-- 'rotakeep.TutteBeta': WHATEVER THE INPUT: true; the input reads as it did. -/
def tutteBetaSpec : ChangeSpec := { name := "tutteBeta", fn := fun _ => fun
  | [d] => { results := [.lit (.bool true)], args := [d] }
  | _ => none }
def tutteBetaRow : OpenClaim := { program := "ytabhcjpjoknihaa", sum := "16864de6214709e7bf76d559a8c3b1f9a637c0dffe86c9c5a37e6114a13999e0", func := "rota/rotakeep.TutteBeta", spec := "tutteBeta", unfollowed := true, recurses := true, plainKeys := false, apart := false }
def TutteBetaSaid : Prop := tutteBetaRow.holds Try.pinned (OpenSpec.ofChange tutteBetaSpec)

/-- ITS FALSE NEIGHBOUR: 'it returns false'. Refute it at one input. -/
def tutteBetaWrong : ChangeSpec := { name := "tutteBeta", fn := fun _ => fun
  | [d] => { results := [.lit (.bool false)], args := [d] }
  | _ => none }
def TutteBetaWrongFalsely : Prop := tutteBetaRow.holds Try.pinned (OpenSpec.ofChange tutteBetaWrong)

/-- 'rotakeep.OrientTwist': WHATEVER THE INPUT: true; the input reads as it did. -/
def orientTwistSpec : ChangeSpec := { name := "orientTwist", fn := fun _ => fun
  | [d1, d2, d3] => { results := [.lit (.bool true)], args := [d1, d2, d3] }
  | _ => none }
def orientTwistRow : OpenClaim := { program := "ytabhcjpjoknihaa", sum := "16864de6214709e7bf76d559a8c3b1f9a637c0dffe86c9c5a37e6114a13999e0", func := "rota/rotakeep.OrientTwist", spec := "orientTwist", unfollowed := true, recurses := true, plainKeys := false, apart := false }
def OrientTwistSaid : Prop := orientTwistRow.holds Try.pinned (OpenSpec.ofChange orientTwistSpec)

/-- ITS FALSE NEIGHBOUR: 'it returns false'. Refute it at one input. -/
def orientTwistWrong : ChangeSpec := { name := "orientTwist", fn := fun _ => fun
  | [d1, d2, d3] => { results := [.lit (.bool false)], args := [d1, d2, d3] }
  | _ => none }
def OrientTwistWrongFalsely : Prop := orientTwistRow.holds Try.pinned (OpenSpec.ofChange orientTwistWrong)

/-- 'rotakeep.OrientMeets': WHATEVER THE INPUT: true; the input reads as it did. -/
def orientMeetsSpec : ChangeSpec := { name := "orientMeets", fn := fun _ => fun
  | [d1, d2] => { results := [.lit (.bool true)], args := [d1, d2] }
  | _ => none }
def orientMeetsRow : OpenClaim := { program := "ytabhcjpjoknihaa", sum := "16864de6214709e7bf76d559a8c3b1f9a637c0dffe86c9c5a37e6114a13999e0", func := "rota/rotakeep.OrientMeets", spec := "orientMeets", unfollowed := true, recurses := true, plainKeys := false, apart := false }
def OrientMeetsSaid : Prop := orientMeetsRow.holds Try.pinned (OpenSpec.ofChange orientMeetsSpec)

/-- ITS FALSE NEIGHBOUR: 'it returns false'. Refute it at one input. -/
def orientMeetsWrong : ChangeSpec := { name := "orientMeets", fn := fun _ => fun
  | [d1, d2] => { results := [.lit (.bool false)], args := [d1, d2] }
  | _ => none }
def OrientMeetsWrongFalsely : Prop := orientMeetsRow.holds Try.pinned (OpenSpec.ofChange orientMeetsWrong)

/-- 'rotakeep.OrientFarkas': WHATEVER THE INPUT: true; the input reads as it did. -/
def orientFarkasSpec : ChangeSpec := { name := "orientFarkas", fn := fun _ => fun
  | [d1, d2, d3] => { results := [.lit (.bool true)], args := [d1, d2, d3] }
  | _ => none }
def orientFarkasRow : OpenClaim := { program := "ytabhcjpjoknihaa", sum := "16864de6214709e7bf76d559a8c3b1f9a637c0dffe86c9c5a37e6114a13999e0", func := "rota/rotakeep.OrientFarkas", spec := "orientFarkas", unfollowed := true, recurses := true, plainKeys := false, apart := false }
def OrientFarkasSaid : Prop := orientFarkasRow.holds Try.pinned (OpenSpec.ofChange orientFarkasSpec)

/-- ITS FALSE NEIGHBOUR: 'it returns false'. Refute it at one input. -/
def orientFarkasWrong : ChangeSpec := { name := "orientFarkas", fn := fun _ => fun
  | [d1, d2, d3] => { results := [.lit (.bool false)], args := [d1, d2, d3] }
  | _ => none }
def OrientFarkasWrongFalsely : Prop := orientFarkasRow.holds Try.pinned (OpenSpec.ofChange orientFarkasWrong)

/-- 'rotakeep.ReprGraphs': WHATEVER THE INPUT: true; the input reads as it did. -/
def reprGraphsSpec : ChangeSpec := { name := "reprGraphs", fn := fun _ => fun
  | [d] => { results := [.lit (.bool true)], args := [d] }
  | _ => none }
def reprGraphsRow : OpenClaim := { program := "ytabhcjpjoknihaa", sum := "16864de6214709e7bf76d559a8c3b1f9a637c0dffe86c9c5a37e6114a13999e0", func := "rota/rotakeep.ReprGraphs", spec := "reprGraphs", unfollowed := true, recurses := true, plainKeys := false, apart := false }
def ReprGraphsSaid : Prop := reprGraphsRow.holds Try.pinned (OpenSpec.ofChange reprGraphsSpec)

/-- ITS FALSE NEIGHBOUR: 'it returns false'. Refute it at one input. -/
def reprGraphsWrong : ChangeSpec := { name := "reprGraphs", fn := fun _ => fun
  | [d] => { results := [.lit (.bool false)], args := [d] }
  | _ => none }
def ReprGraphsWrongFalsely : Prop := reprGraphsRow.holds Try.pinned (OpenSpec.ofChange reprGraphsWrong)

/-- 'rotakeep.ReprMinors': WHATEVER THE INPUT: true; the input reads as it did. -/
def reprMinorsSpec : ChangeSpec := { name := "reprMinors", fn := fun _ => fun
  | [d1, d2] => { results := [.lit (.bool true)], args := [d1, d2] }
  | _ => none }
def reprMinorsRow : OpenClaim := { program := "ytabhcjpjoknihaa", sum := "16864de6214709e7bf76d559a8c3b1f9a637c0dffe86c9c5a37e6114a13999e0", func := "rota/rotakeep.ReprMinors", spec := "reprMinors", unfollowed := true, recurses := true, plainKeys := false, apart := false }
def ReprMinorsSaid : Prop := reprMinorsRow.holds Try.pinned (OpenSpec.ofChange reprMinorsSpec)

/-- ITS FALSE NEIGHBOUR: 'it returns false'. Refute it at one input. -/
def reprMinorsWrong : ChangeSpec := { name := "reprMinors", fn := fun _ => fun
  | [d1, d2] => { results := [.lit (.bool false)], args := [d1, d2] }
  | _ => none }
def ReprMinorsWrongFalsely : Prop := reprMinorsRow.holds Try.pinned (OpenSpec.ofChange reprMinorsWrong)

/-- 'rotakeep.ComplexBjoerner': WHATEVER THE INPUT: true; the input reads as it did. -/
def complexBjoernerSpec : ChangeSpec := { name := "complexBjoerner", fn := fun _ => fun
  | [d] => { results := [.lit (.bool true)], args := [d] }
  | _ => none }
def complexBjoernerRow : OpenClaim := { program := "ytabhcjpjoknihaa", sum := "16864de6214709e7bf76d559a8c3b1f9a637c0dffe86c9c5a37e6114a13999e0", func := "rota/rotakeep.ComplexBjoerner", spec := "complexBjoerner", unfollowed := true, recurses := true, plainKeys := false, apart := false }
def ComplexBjoernerSaid : Prop := complexBjoernerRow.holds Try.pinned (OpenSpec.ofChange complexBjoernerSpec)

/-- ITS FALSE NEIGHBOUR: 'it returns false'. Refute it at one input. -/
def complexBjoernerWrong : ChangeSpec := { name := "complexBjoerner", fn := fun _ => fun
  | [d] => { results := [.lit (.bool false)], args := [d] }
  | _ => none }
def ComplexBjoernerWrongFalsely : Prop := complexBjoernerRow.holds Try.pinned (OpenSpec.ofChange complexBjoernerWrong)

/-- 'rotakeep.ComplexMacaulay': WHATEVER THE INPUT: true; the input reads as it did. -/
def complexMacaulaySpec : ChangeSpec := { name := "complexMacaulay", fn := fun _ => fun
  | [d1, d2, d3] => { results := [.lit (.bool true)], args := [d1, d2, d3] }
  | _ => none }
def complexMacaulayRow : OpenClaim := { program := "ytabhcjpjoknihaa", sum := "16864de6214709e7bf76d559a8c3b1f9a637c0dffe86c9c5a37e6114a13999e0", func := "rota/rotakeep.ComplexMacaulay", spec := "complexMacaulay", unfollowed := true, recurses := true, plainKeys := false, apart := false }
def ComplexMacaulaySaid : Prop := complexMacaulayRow.holds Try.pinned (OpenSpec.ofChange complexMacaulaySpec)

/-- ITS FALSE NEIGHBOUR: 'it returns false'. Refute it at one input. -/
def complexMacaulayWrong : ChangeSpec := { name := "complexMacaulay", fn := fun _ => fun
  | [d1, d2, d3] => { results := [.lit (.bool false)], args := [d1, d2, d3] }
  | _ => none }
def ComplexMacaulayWrongFalsely : Prop := complexMacaulayRow.holds Try.pinned (OpenSpec.ofChange complexMacaulayWrong)

/- THE SECOND FORM. 'bulk': how many values and letters a reading holds, each counted each time it is reached (what is shared counts as often as it is met; a slice's spare places count too). A statement '..UptoSaid' is the law's where the arguments, and the package variables that the reading takes, are together of bulk at most 1048576: NARROWER than '..Said'. Prove '..Said' where nothing that the law and all that it calls make is longer than what came in: it says more and counts as full. Else prove '..UptoSaid'. A law counts once. -/
mutual
def uptoBulk {H : Type} : DataW H → Nat
  | .lit (.string bytes) => bytes.length + 1
  | .lit _ => 1
  | .nil => 1
  | .ptr d => uptoBulk d + 1
  | .slice elems spare => uptoBulkAll elems + uptoBulkAll spare + 1
  | .agg parts => uptoBulkAll parts + 1
  | .iface _ d => uptoBulk d + 1
  | .map entries => uptoBulkEntries entries + 1
  | .held _ => 1
def uptoBulkAll {H : Type} : List (DataW H) → Nat
  | [] => 0
  | d :: r => uptoBulk d + uptoBulkAll r
def uptoBulkEntries {H : Type} : List (Lit × DataW H) → Nat
  | [] => 0
  | x :: r => uptoBulkEntry x + uptoBulkEntries r
def uptoBulkEntry {H : Type} : Lit × DataW H → Nat
  | (.string bytes, d) => bytes.length + uptoBulk d + 1
  | (_, d) => uptoBulk d + 1
 end
def uptoSmall : (H : Type) → List (DataW H) → Bool := fun _ ds => decide (uptoBulkAll ds ≤ 1048576)
def OpenSpec.upto (s : _root_.Go.ChangeSpec) : _root_.Go.OpenSpec := { _root_.Go.OpenSpec.ofChange s with cond := some uptoSmall }

/-- 'rotakeep.LinksMenger', WHERE WHAT IT READS IS OF BULK AT MOST 1048576: true; the input reads as it did. -/
def linksMengerUptoRow : OpenClaim := { program := "ytabhcjpjoknihaa", sum := "16864de6214709e7bf76d559a8c3b1f9a637c0dffe86c9c5a37e6114a13999e0", func := "rota/rotakeep.LinksMenger", spec := "linksMenger", unfollowed := true, recurses := true, plainKeys := false, apart := false, narrowed := true }
def LinksMengerUptoSaid : Prop := linksMengerUptoRow.holds Try.pinned (OpenSpec.upto linksMengerSpec)

/-- 'rotakeep.CodesBounds', WHERE WHAT IT READS IS OF BULK AT MOST 1048576: true; the input reads as it did. -/
def codesBoundsUptoRow : OpenClaim := { program := "ytabhcjpjoknihaa", sum := "16864de6214709e7bf76d559a8c3b1f9a637c0dffe86c9c5a37e6114a13999e0", func := "rota/rotakeep.CodesBounds", spec := "codesBounds", unfollowed := true, recurses := true, plainKeys := false, apart := false, narrowed := true }
def CodesBoundsUptoSaid : Prop := codesBoundsUptoRow.holds Try.pinned (OpenSpec.upto codesBoundsSpec)

/-- 'rotakeep.CodesCritical', WHERE WHAT IT READS IS OF BULK AT MOST 1048576: true; the input reads as it did. -/
def codesCriticalUptoRow : OpenClaim := { program := "ytabhcjpjoknihaa", sum := "16864de6214709e7bf76d559a8c3b1f9a637c0dffe86c9c5a37e6114a13999e0", func := "rota/rotakeep.CodesCritical", spec := "codesCritical", unfollowed := true, recurses := true, plainKeys := false, apart := false, narrowed := true }
def CodesCriticalUptoSaid : Prop := codesCriticalUptoRow.holds Try.pinned (OpenSpec.upto codesCriticalSpec)

/-- 'rotakeep.TutteCrapo', WHERE WHAT IT READS IS OF BULK AT MOST 1048576: true; the input reads as it did. -/
def tutteCrapoUptoRow : OpenClaim := { program := "ytabhcjpjoknihaa", sum := "16864de6214709e7bf76d559a8c3b1f9a637c0dffe86c9c5a37e6114a13999e0", func := "rota/rotakeep.TutteCrapo", spec := "tutteCrapo", unfollowed := true, recurses := true, plainKeys := false, apart := false, narrowed := true }
def TutteCrapoUptoSaid : Prop := tutteCrapoUptoRow.holds Try.pinned (OpenSpec.upto tutteCrapoSpec)

/-- 'rotakeep.TutteBeta', WHERE WHAT IT READS IS OF BULK AT MOST 1048576: true; the input reads as it did. -/
def tutteBetaUptoRow : OpenClaim := { program := "ytabhcjpjoknihaa", sum := "16864de6214709e7bf76d559a8c3b1f9a637c0dffe86c9c5a37e6114a13999e0", func := "rota/rotakeep.TutteBeta", spec := "tutteBeta", unfollowed := true, recurses := true, plainKeys := false, apart := false, narrowed := true }
def TutteBetaUptoSaid : Prop := tutteBetaUptoRow.holds Try.pinned (OpenSpec.upto tutteBetaSpec)

/-- 'rotakeep.OrientTwist', WHERE WHAT IT READS IS OF BULK AT MOST 1048576: true; the input reads as it did. -/
def orientTwistUptoRow : OpenClaim := { program := "ytabhcjpjoknihaa", sum := "16864de6214709e7bf76d559a8c3b1f9a637c0dffe86c9c5a37e6114a13999e0", func := "rota/rotakeep.OrientTwist", spec := "orientTwist", unfollowed := true, recurses := true, plainKeys := false, apart := false, narrowed := true }
def OrientTwistUptoSaid : Prop := orientTwistUptoRow.holds Try.pinned (OpenSpec.upto orientTwistSpec)

/-- 'rotakeep.OrientMeets', WHERE WHAT IT READS IS OF BULK AT MOST 1048576: true; the input reads as it did. -/
def orientMeetsUptoRow : OpenClaim := { program := "ytabhcjpjoknihaa", sum := "16864de6214709e7bf76d559a8c3b1f9a637c0dffe86c9c5a37e6114a13999e0", func := "rota/rotakeep.OrientMeets", spec := "orientMeets", unfollowed := true, recurses := true, plainKeys := false, apart := false, narrowed := true }
def OrientMeetsUptoSaid : Prop := orientMeetsUptoRow.holds Try.pinned (OpenSpec.upto orientMeetsSpec)

/-- 'rotakeep.OrientFarkas', WHERE WHAT IT READS IS OF BULK AT MOST 1048576: true; the input reads as it did. -/
def orientFarkasUptoRow : OpenClaim := { program := "ytabhcjpjoknihaa", sum := "16864de6214709e7bf76d559a8c3b1f9a637c0dffe86c9c5a37e6114a13999e0", func := "rota/rotakeep.OrientFarkas", spec := "orientFarkas", unfollowed := true, recurses := true, plainKeys := false, apart := false, narrowed := true }
def OrientFarkasUptoSaid : Prop := orientFarkasUptoRow.holds Try.pinned (OpenSpec.upto orientFarkasSpec)

/-- 'rotakeep.ReprGraphs', WHERE WHAT IT READS IS OF BULK AT MOST 1048576: true; the input reads as it did. -/
def reprGraphsUptoRow : OpenClaim := { program := "ytabhcjpjoknihaa", sum := "16864de6214709e7bf76d559a8c3b1f9a637c0dffe86c9c5a37e6114a13999e0", func := "rota/rotakeep.ReprGraphs", spec := "reprGraphs", unfollowed := true, recurses := true, plainKeys := false, apart := false, narrowed := true }
def ReprGraphsUptoSaid : Prop := reprGraphsUptoRow.holds Try.pinned (OpenSpec.upto reprGraphsSpec)

/-- 'rotakeep.ReprMinors', WHERE WHAT IT READS IS OF BULK AT MOST 1048576: true; the input reads as it did. -/
def reprMinorsUptoRow : OpenClaim := { program := "ytabhcjpjoknihaa", sum := "16864de6214709e7bf76d559a8c3b1f9a637c0dffe86c9c5a37e6114a13999e0", func := "rota/rotakeep.ReprMinors", spec := "reprMinors", unfollowed := true, recurses := true, plainKeys := false, apart := false, narrowed := true }
def ReprMinorsUptoSaid : Prop := reprMinorsUptoRow.holds Try.pinned (OpenSpec.upto reprMinorsSpec)

/-- 'rotakeep.ComplexBjoerner', WHERE WHAT IT READS IS OF BULK AT MOST 1048576: true; the input reads as it did. -/
def complexBjoernerUptoRow : OpenClaim := { program := "ytabhcjpjoknihaa", sum := "16864de6214709e7bf76d559a8c3b1f9a637c0dffe86c9c5a37e6114a13999e0", func := "rota/rotakeep.ComplexBjoerner", spec := "complexBjoerner", unfollowed := true, recurses := true, plainKeys := false, apart := false, narrowed := true }
def ComplexBjoernerUptoSaid : Prop := complexBjoernerUptoRow.holds Try.pinned (OpenSpec.upto complexBjoernerSpec)

/-- 'rotakeep.ComplexMacaulay', WHERE WHAT IT READS IS OF BULK AT MOST 1048576: true; the input reads as it did. -/
def complexMacaulayUptoRow : OpenClaim := { program := "ytabhcjpjoknihaa", sum := "16864de6214709e7bf76d559a8c3b1f9a637c0dffe86c9c5a37e6114a13999e0", func := "rota/rotakeep.ComplexMacaulay", spec := "complexMacaulay", unfollowed := true, recurses := true, plainKeys := false, apart := false, narrowed := true }
def ComplexMacaulayUptoSaid : Prop := complexMacaulayUptoRow.holds Try.pinned (OpenSpec.upto complexMacaulaySpec)

end Rows
end Go.Proofs.Ytabhcjpjoknihaa
