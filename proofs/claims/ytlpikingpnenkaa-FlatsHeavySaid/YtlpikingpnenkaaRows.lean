/-
  No cell of these rows narrows 'for every input' (looked for: loops, veiled, ifaces, maps, wideKeys, modest, calm, conditions, laid).
  DERIVED. THE GIVEN ROWS OF THIS SEAT. 10 by the template 'for every input the law returns true; each argument reads behind the call as it read before'; 0 by the template 'total and deterministic' (their statements: YtlpikingpnenkaaTotals.lean).
  GIVEN WITH THE SEED: the statements are not yours to turn. If you find one false, say at which input.
  Laid BY PROGRAM, IN A SANDBOX (cutbox-rows.mjs): the forced cells as the released guide's own fill.sh prints them over the translation 2bffbe3eb8cac9e6… (all of the seat's roots in one cut). By AI agents, Wed Nov 11 2026. No macro, syntax, notation, axiom, sorry.
-/
import Derived.Test.YtlpikingpnenkaaChecked
import GoSem.Claim
import GoSem.ClaimJoined
import GoSem.ClaimMapViews
import Derived.JoinedTies
import Derived.KernelRfl
namespace Go.Proofs.Ytlpikingpnenkaa
/- THE CELL 'sum', in the pinned program and in every row, IS THE sha256 OF THE DUMP (.gsa) THAT YtlpikingpnenkaaProg.lean LOADS. Nothing in Lean hashes anything: it is a label: what it is worth is what the hold of that sum in a sandbox is worth. -/
noncomputable def Try.pinned : Pinned := { name := "ytlpikingpnenkaa", sum := "2bffbe3eb8cac9e6137deb41b4db3e7ae5908c0ea07e4005b25361ac5f793641", checked := Try.checked }
namespace Rows
def none {H : Type} : Left H := { results := [], args := [] }

/-- 'rotakeep.SetsSperner': WHATEVER THE INPUT: true; the input reads as it did. -/
def setsSpernerSpec : ChangeSpec := { name := "setsSperner", fn := fun _ => fun
  | [d1, d2] => { results := [.lit (.bool true)], args := [d1, d2] }
  | _ => none }
def setsSpernerRow : OpenClaim := { program := "ytlpikingpnenkaa", sum := "2bffbe3eb8cac9e6137deb41b4db3e7ae5908c0ea07e4005b25361ac5f793641", func := "rota/rotakeep.SetsSperner", spec := "setsSperner", unfollowed := true, recurses := true, plainKeys := false, apart := false }
def SetsSpernerSaid : Prop := setsSpernerRow.holds Try.pinned (OpenSpec.ofChange setsSpernerSpec)

/-- ITS FALSE NEIGHBOUR: 'it returns false'. Refute it at one input. -/
def setsSpernerWrong : ChangeSpec := { name := "setsSperner", fn := fun _ => fun
  | [d1, d2] => { results := [.lit (.bool false)], args := [d1, d2] }
  | _ => none }
def SetsSpernerWrongFalsely : Prop := setsSpernerRow.holds Try.pinned (OpenSpec.ofChange setsSpernerWrong)

/-- 'rotakeep.LinksMenger': WHATEVER THE INPUT: true; the input reads as it did. -/
def linksMengerSpec : ChangeSpec := { name := "linksMenger", fn := fun _ => fun
  | [d1, d2, d3] => { results := [.lit (.bool true)], args := [d1, d2, d3] }
  | _ => none }
def linksMengerRow : OpenClaim := { program := "ytlpikingpnenkaa", sum := "2bffbe3eb8cac9e6137deb41b4db3e7ae5908c0ea07e4005b25361ac5f793641", func := "rota/rotakeep.LinksMenger", spec := "linksMenger", unfollowed := true, recurses := true, plainKeys := false, apart := false }
def LinksMengerSaid : Prop := linksMengerRow.holds Try.pinned (OpenSpec.ofChange linksMengerSpec)

/-- ITS FALSE NEIGHBOUR: 'it returns false'. Refute it at one input. -/
def linksMengerWrong : ChangeSpec := { name := "linksMenger", fn := fun _ => fun
  | [d1, d2, d3] => { results := [.lit (.bool false)], args := [d1, d2, d3] }
  | _ => none }
def LinksMengerWrongFalsely : Prop := linksMengerRow.holds Try.pinned (OpenSpec.ofChange linksMengerWrong)

/-- 'rotakeep.FlatsHeavy': WHATEVER THE INPUT: true; the input reads as it did. -/
def flatsHeavySpec : ChangeSpec := { name := "flatsHeavy", fn := fun _ => fun
  | [d] => { results := [.lit (.bool true)], args := [d] }
  | _ => none }
def flatsHeavyRow : OpenClaim := { program := "ytlpikingpnenkaa", sum := "2bffbe3eb8cac9e6137deb41b4db3e7ae5908c0ea07e4005b25361ac5f793641", func := "rota/rotakeep.FlatsHeavy", spec := "flatsHeavy", unfollowed := true, recurses := true, plainKeys := false, apart := false }
def FlatsHeavySaid : Prop := flatsHeavyRow.holds Try.pinned (OpenSpec.ofChange flatsHeavySpec)

/-- ITS FALSE NEIGHBOUR: 'it returns false'. Refute it at one input. -/
def flatsHeavyWrong : ChangeSpec := { name := "flatsHeavy", fn := fun _ => fun
  | [d] => { results := [.lit (.bool false)], args := [d] }
  | _ => none }
def FlatsHeavyWrongFalsely : Prop := flatsHeavyRow.holds Try.pinned (OpenSpec.ofChange flatsHeavyWrong)

/-- 'rotakeep.FlatsConcave': WHATEVER THE INPUT: true; the input reads as it did. -/
def flatsConcaveSpec : ChangeSpec := { name := "flatsConcave", fn := fun _ => fun
  | [d] => { results := [.lit (.bool true)], args := [d] }
  | _ => none }
def flatsConcaveRow : OpenClaim := { program := "ytlpikingpnenkaa", sum := "2bffbe3eb8cac9e6137deb41b4db3e7ae5908c0ea07e4005b25361ac5f793641", func := "rota/rotakeep.FlatsConcave", spec := "flatsConcave", unfollowed := true, recurses := true, plainKeys := false, apart := false }
def FlatsConcaveSaid : Prop := flatsConcaveRow.holds Try.pinned (OpenSpec.ofChange flatsConcaveSpec)

/-- ITS FALSE NEIGHBOUR: 'it returns false'. Refute it at one input. -/
def flatsConcaveWrong : ChangeSpec := { name := "flatsConcave", fn := fun _ => fun
  | [d] => { results := [.lit (.bool false)], args := [d] }
  | _ => none }
def FlatsConcaveWrongFalsely : Prop := flatsConcaveRow.holds Try.pinned (OpenSpec.ofChange flatsConcaveWrong)

/-- 'rotakeep.CodesCritical': WHATEVER THE INPUT: true; the input reads as it did. -/
def codesCriticalSpec : ChangeSpec := { name := "codesCritical", fn := fun _ => fun
  | [d] => { results := [.lit (.bool true)], args := [d] }
  | _ => none }
def codesCriticalRow : OpenClaim := { program := "ytlpikingpnenkaa", sum := "2bffbe3eb8cac9e6137deb41b4db3e7ae5908c0ea07e4005b25361ac5f793641", func := "rota/rotakeep.CodesCritical", spec := "codesCritical", unfollowed := true, recurses := true, plainKeys := false, apart := false }
def CodesCriticalSaid : Prop := codesCriticalRow.holds Try.pinned (OpenSpec.ofChange codesCriticalSpec)

/-- ITS FALSE NEIGHBOUR: 'it returns false'. Refute it at one input. -/
def codesCriticalWrong : ChangeSpec := { name := "codesCritical", fn := fun _ => fun
  | [d] => { results := [.lit (.bool false)], args := [d] }
  | _ => none }
def CodesCriticalWrongFalsely : Prop := codesCriticalRow.holds Try.pinned (OpenSpec.ofChange codesCriticalWrong)

/-- 'rotakeep.ComplexMacaulay': WHATEVER THE INPUT: true; the input reads as it did. -/
def complexMacaulaySpec : ChangeSpec := { name := "complexMacaulay", fn := fun _ => fun
  | [d1, d2, d3] => { results := [.lit (.bool true)], args := [d1, d2, d3] }
  | _ => none }
def complexMacaulayRow : OpenClaim := { program := "ytlpikingpnenkaa", sum := "2bffbe3eb8cac9e6137deb41b4db3e7ae5908c0ea07e4005b25361ac5f793641", func := "rota/rotakeep.ComplexMacaulay", spec := "complexMacaulay", unfollowed := true, recurses := true, plainKeys := false, apart := false }
def ComplexMacaulaySaid : Prop := complexMacaulayRow.holds Try.pinned (OpenSpec.ofChange complexMacaulaySpec)

/-- ITS FALSE NEIGHBOUR: 'it returns false'. Refute it at one input. -/
def complexMacaulayWrong : ChangeSpec := { name := "complexMacaulay", fn := fun _ => fun
  | [d1, d2, d3] => { results := [.lit (.bool false)], args := [d1, d2, d3] }
  | _ => none }
def ComplexMacaulayWrongFalsely : Prop := complexMacaulayRow.holds Try.pinned (OpenSpec.ofChange complexMacaulayWrong)

/-- 'rotakeep.OrientMeets': WHATEVER THE INPUT: true; the input reads as it did. -/
def orientMeetsSpec : ChangeSpec := { name := "orientMeets", fn := fun _ => fun
  | [d1, d2] => { results := [.lit (.bool true)], args := [d1, d2] }
  | _ => none }
def orientMeetsRow : OpenClaim := { program := "ytlpikingpnenkaa", sum := "2bffbe3eb8cac9e6137deb41b4db3e7ae5908c0ea07e4005b25361ac5f793641", func := "rota/rotakeep.OrientMeets", spec := "orientMeets", unfollowed := true, recurses := true, plainKeys := false, apart := false }
def OrientMeetsSaid : Prop := orientMeetsRow.holds Try.pinned (OpenSpec.ofChange orientMeetsSpec)

/-- ITS FALSE NEIGHBOUR: 'it returns false'. Refute it at one input. -/
def orientMeetsWrong : ChangeSpec := { name := "orientMeets", fn := fun _ => fun
  | [d1, d2] => { results := [.lit (.bool false)], args := [d1, d2] }
  | _ => none }
def OrientMeetsWrongFalsely : Prop := orientMeetsRow.holds Try.pinned (OpenSpec.ofChange orientMeetsWrong)

/-- 'rotakeep.OrientFarkas': WHATEVER THE INPUT: true; the input reads as it did. -/
def orientFarkasSpec : ChangeSpec := { name := "orientFarkas", fn := fun _ => fun
  | [d1, d2, d3] => { results := [.lit (.bool true)], args := [d1, d2, d3] }
  | _ => none }
def orientFarkasRow : OpenClaim := { program := "ytlpikingpnenkaa", sum := "2bffbe3eb8cac9e6137deb41b4db3e7ae5908c0ea07e4005b25361ac5f793641", func := "rota/rotakeep.OrientFarkas", spec := "orientFarkas", unfollowed := true, recurses := true, plainKeys := false, apart := false }
def OrientFarkasSaid : Prop := orientFarkasRow.holds Try.pinned (OpenSpec.ofChange orientFarkasSpec)

/-- ITS FALSE NEIGHBOUR: 'it returns false'. Refute it at one input. -/
def orientFarkasWrong : ChangeSpec := { name := "orientFarkas", fn := fun _ => fun
  | [d1, d2, d3] => { results := [.lit (.bool false)], args := [d1, d2, d3] }
  | _ => none }
def OrientFarkasWrongFalsely : Prop := orientFarkasRow.holds Try.pinned (OpenSpec.ofChange orientFarkasWrong)

/-- 'rotakeep.OrientTwist': WHATEVER THE INPUT: true; the input reads as it did. -/
def orientTwistSpec : ChangeSpec := { name := "orientTwist", fn := fun _ => fun
  | [d1, d2, d3] => { results := [.lit (.bool true)], args := [d1, d2, d3] }
  | _ => none }
def orientTwistRow : OpenClaim := { program := "ytlpikingpnenkaa", sum := "2bffbe3eb8cac9e6137deb41b4db3e7ae5908c0ea07e4005b25361ac5f793641", func := "rota/rotakeep.OrientTwist", spec := "orientTwist", unfollowed := true, recurses := true, plainKeys := false, apart := false }
def OrientTwistSaid : Prop := orientTwistRow.holds Try.pinned (OpenSpec.ofChange orientTwistSpec)

/-- ITS FALSE NEIGHBOUR: 'it returns false'. Refute it at one input. -/
def orientTwistWrong : ChangeSpec := { name := "orientTwist", fn := fun _ => fun
  | [d1, d2, d3] => { results := [.lit (.bool false)], args := [d1, d2, d3] }
  | _ => none }
def OrientTwistWrongFalsely : Prop := orientTwistRow.holds Try.pinned (OpenSpec.ofChange orientTwistWrong)

/-- 'rotakeep.ReprMinors': WHATEVER THE INPUT: true; the input reads as it did. -/
def reprMinorsSpec : ChangeSpec := { name := "reprMinors", fn := fun _ => fun
  | [d1, d2] => { results := [.lit (.bool true)], args := [d1, d2] }
  | _ => none }
def reprMinorsRow : OpenClaim := { program := "ytlpikingpnenkaa", sum := "2bffbe3eb8cac9e6137deb41b4db3e7ae5908c0ea07e4005b25361ac5f793641", func := "rota/rotakeep.ReprMinors", spec := "reprMinors", unfollowed := true, recurses := true, plainKeys := false, apart := false }
def ReprMinorsSaid : Prop := reprMinorsRow.holds Try.pinned (OpenSpec.ofChange reprMinorsSpec)

/-- ITS FALSE NEIGHBOUR: 'it returns false'. Refute it at one input. -/
def reprMinorsWrong : ChangeSpec := { name := "reprMinors", fn := fun _ => fun
  | [d1, d2] => { results := [.lit (.bool false)], args := [d1, d2] }
  | _ => none }
def ReprMinorsWrongFalsely : Prop := reprMinorsRow.holds Try.pinned (OpenSpec.ofChange reprMinorsWrong)

/- THE SECOND FORM. 'bulk': how many values and letters a reading holds, each counted each time it is reached (what is shared counts as often as it is met; a slice's spare places count too). A statement '..UptoSaid' is the law's where the arguments, and the package variables that the reading takes, are together of bulk at most 1048576: NARROWER than '..Said'. Prove '..Said' where nothing that the law and all that it calls make is longer than what came in: it says more and counts as full. Else prove '..UptoSaid'. A law counts once. -/
mutual
def uptoBulk {H : Type} : DataW H → Nat
  | .lit (.string bytes) => bytes.length + 1
  | .lit _ => 1
  | .nil => 1
  | .ptr d => uptoBulk d + 1
  | .slice elems spare => uptoBulkAll elems + uptoBulkAll spare + 1
  | .agg parts => uptoBulkAll parts + 1
  | .iface _ d => uptoBulk d + 1
  | .map entries => uptoBulkEntries entries + 1
  | .held _ => 1
def uptoBulkAll {H : Type} : List (DataW H) → Nat
  | [] => 0
  | d :: r => uptoBulk d + uptoBulkAll r
def uptoBulkEntries {H : Type} : List (Lit × DataW H) → Nat
  | [] => 0
  | x :: r => uptoBulkEntry x + uptoBulkEntries r
def uptoBulkEntry {H : Type} : Lit × DataW H → Nat
  | (.string bytes, d) => bytes.length + uptoBulk d + 1
  | (_, d) => uptoBulk d + 1
 end
def uptoSmall : (H : Type) → List (DataW H) → Bool := fun _ ds => decide (uptoBulkAll ds ≤ 1048576)
def OpenSpec.upto (s : _root_.Go.ChangeSpec) : _root_.Go.OpenSpec := { _root_.Go.OpenSpec.ofChange s with cond := some uptoSmall }

/-- 'rotakeep.SetsSperner', WHERE WHAT IT READS IS OF BULK AT MOST 1048576: true; the input reads as it did. -/
def setsSpernerUptoRow : OpenClaim := { program := "ytlpikingpnenkaa", sum := "2bffbe3eb8cac9e6137deb41b4db3e7ae5908c0ea07e4005b25361ac5f793641", func := "rota/rotakeep.SetsSperner", spec := "setsSperner", unfollowed := true, recurses := true, plainKeys := false, apart := false, narrowed := true }
def SetsSpernerUptoSaid : Prop := setsSpernerUptoRow.holds Try.pinned (OpenSpec.upto setsSpernerSpec)

/-- 'rotakeep.LinksMenger', WHERE WHAT IT READS IS OF BULK AT MOST 1048576: true; the input reads as it did. -/
def linksMengerUptoRow : OpenClaim := { program := "ytlpikingpnenkaa", sum := "2bffbe3eb8cac9e6137deb41b4db3e7ae5908c0ea07e4005b25361ac5f793641", func := "rota/rotakeep.LinksMenger", spec := "linksMenger", unfollowed := true, recurses := true, plainKeys := false, apart := false, narrowed := true }
def LinksMengerUptoSaid : Prop := linksMengerUptoRow.holds Try.pinned (OpenSpec.upto linksMengerSpec)

/-- 'rotakeep.FlatsHeavy', WHERE WHAT IT READS IS OF BULK AT MOST 1048576: true; the input reads as it did. -/
def flatsHeavyUptoRow : OpenClaim := { program := "ytlpikingpnenkaa", sum := "2bffbe3eb8cac9e6137deb41b4db3e7ae5908c0ea07e4005b25361ac5f793641", func := "rota/rotakeep.FlatsHeavy", spec := "flatsHeavy", unfollowed := true, recurses := true, plainKeys := false, apart := false, narrowed := true }
def FlatsHeavyUptoSaid : Prop := flatsHeavyUptoRow.holds Try.pinned (OpenSpec.upto flatsHeavySpec)

/-- 'rotakeep.FlatsConcave', WHERE WHAT IT READS IS OF BULK AT MOST 1048576: true; the input reads as it did. -/
def flatsConcaveUptoRow : OpenClaim := { program := "ytlpikingpnenkaa", sum := "2bffbe3eb8cac9e6137deb41b4db3e7ae5908c0ea07e4005b25361ac5f793641", func := "rota/rotakeep.FlatsConcave", spec := "flatsConcave", unfollowed := true, recurses := true, plainKeys := false, apart := false, narrowed := true }
def FlatsConcaveUptoSaid : Prop := flatsConcaveUptoRow.holds Try.pinned (OpenSpec.upto flatsConcaveSpec)

/-- 'rotakeep.CodesCritical', WHERE WHAT IT READS IS OF BULK AT MOST 1048576: true; the input reads as it did. -/
def codesCriticalUptoRow : OpenClaim := { program := "ytlpikingpnenkaa", sum := "2bffbe3eb8cac9e6137deb41b4db3e7ae5908c0ea07e4005b25361ac5f793641", func := "rota/rotakeep.CodesCritical", spec := "codesCritical", unfollowed := true, recurses := true, plainKeys := false, apart := false, narrowed := true }
def CodesCriticalUptoSaid : Prop := codesCriticalUptoRow.holds Try.pinned (OpenSpec.upto codesCriticalSpec)

/-- 'rotakeep.ComplexMacaulay', WHERE WHAT IT READS IS OF BULK AT MOST 1048576: true; the input reads as it did. -/
def complexMacaulayUptoRow : OpenClaim := { program := "ytlpikingpnenkaa", sum := "2bffbe3eb8cac9e6137deb41b4db3e7ae5908c0ea07e4005b25361ac5f793641", func := "rota/rotakeep.ComplexMacaulay", spec := "complexMacaulay", unfollowed := true, recurses := true, plainKeys := false, apart := false, narrowed := true }
def ComplexMacaulayUptoSaid : Prop := complexMacaulayUptoRow.holds Try.pinned (OpenSpec.upto complexMacaulaySpec)

/-- 'rotakeep.OrientMeets', WHERE WHAT IT READS IS OF BULK AT MOST 1048576: true; the input reads as it did. -/
def orientMeetsUptoRow : OpenClaim := { program := "ytlpikingpnenkaa", sum := "2bffbe3eb8cac9e6137deb41b4db3e7ae5908c0ea07e4005b25361ac5f793641", func := "rota/rotakeep.OrientMeets", spec := "orientMeets", unfollowed := true, recurses := true, plainKeys := false, apart := false, narrowed := true }
def OrientMeetsUptoSaid : Prop := orientMeetsUptoRow.holds Try.pinned (OpenSpec.upto orientMeetsSpec)

/-- 'rotakeep.OrientFarkas', WHERE WHAT IT READS IS OF BULK AT MOST 1048576: true; the input reads as it did. -/
def orientFarkasUptoRow : OpenClaim := { program := "ytlpikingpnenkaa", sum := "2bffbe3eb8cac9e6137deb41b4db3e7ae5908c0ea07e4005b25361ac5f793641", func := "rota/rotakeep.OrientFarkas", spec := "orientFarkas", unfollowed := true, recurses := true, plainKeys := false, apart := false, narrowed := true }
def OrientFarkasUptoSaid : Prop := orientFarkasUptoRow.holds Try.pinned (OpenSpec.upto orientFarkasSpec)

/-- 'rotakeep.OrientTwist', WHERE WHAT IT READS IS OF BULK AT MOST 1048576: true; the input reads as it did. -/
def orientTwistUptoRow : OpenClaim := { program := "ytlpikingpnenkaa", sum := "2bffbe3eb8cac9e6137deb41b4db3e7ae5908c0ea07e4005b25361ac5f793641", func := "rota/rotakeep.OrientTwist", spec := "orientTwist", unfollowed := true, recurses := true, plainKeys := false, apart := false, narrowed := true }
def OrientTwistUptoSaid : Prop := orientTwistUptoRow.holds Try.pinned (OpenSpec.upto orientTwistSpec)

/-- 'rotakeep.ReprMinors', WHERE WHAT IT READS IS OF BULK AT MOST 1048576: true; the input reads as it did. -/
def reprMinorsUptoRow : OpenClaim := { program := "ytlpikingpnenkaa", sum := "2bffbe3eb8cac9e6137deb41b4db3e7ae5908c0ea07e4005b25361ac5f793641", func := "rota/rotakeep.ReprMinors", spec := "reprMinors", unfollowed := true, recurses := true, plainKeys := false, apart := false, narrowed := true }
def ReprMinorsUptoSaid : Prop := reprMinorsUptoRow.holds Try.pinned (OpenSpec.upto reprMinorsSpec)

end Rows
end Go.Proofs.Ytlpikingpnenkaa
