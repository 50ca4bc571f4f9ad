/-
  No cell of these rows narrows 'for every input' (looked for: loops, veiled, ifaces, maps, wideKeys, modest, calm, conditions, laid).
  DERIVED. THE GIVEN ROWS OF THIS SEAT. 12 by the template 'for every input the law returns true; each argument reads behind the call as it read before'; 0 by the template 'total and deterministic' (their statements: YtogmkocjidcmkaaTotals.lean).
  GIVEN WITH THE SEED: the statements are not yours to turn. If you find one false, say at which input.
  Laid BY PROGRAM, IN A SANDBOX (cutbox-rows.mjs): the forced cells as the released guide's own fill.sh prints them over the translation ef543ccb8b45d536… (all of the seat's roots in one cut). By AI agents, Wed Nov 11 2026. No macro, syntax, notation, axiom, sorry.
-/
import Derived.Test.YtogmkocjidcmkaaChecked
import GoSem.Claim
import GoSem.ClaimJoined
import GoSem.ClaimMapViews
import Derived.JoinedTies
import Derived.KernelRfl
namespace Go.Proofs.Ytogmkocjidcmkaa
/- THE CELL 'sum', in the pinned program and in every row, IS THE sha256 OF THE DUMP (.gsa) THAT YtogmkocjidcmkaaProg.lean LOADS. Nothing in Lean hashes anything: it is a label: what it is worth is what the hold of that sum in a sandbox is worth. -/
noncomputable def Try.pinned : Pinned := { name := "ytogmkocjidcmkaa", sum := "ef543ccb8b45d53600b6abc4031938ea967864ebcb23a271c370039cc2c50faa", checked := Try.checked }
namespace Rows
def none {H : Type} : Left H := { results := [], args := [] }

/-- 'rotakeep.LinksTurned': WHATEVER THE INPUT: true; the input reads as it did. -/
def linksTurnedSpec : ChangeSpec := { name := "linksTurned", fn := fun _ => fun
  | [d1, d2, d3, d4] => { results := [.lit (.bool true)], args := [d1, d2, d3, d4] }
  | _ => none }
def linksTurnedRow : OpenClaim := { program := "ytogmkocjidcmkaa", sum := "ef543ccb8b45d53600b6abc4031938ea967864ebcb23a271c370039cc2c50faa", func := "rota/rotakeep.LinksTurned", spec := "linksTurned", plainKeys := false, apart := false }
def LinksTurnedSaid : Prop := linksTurnedRow.holds Try.pinned (OpenSpec.ofChange linksTurnedSpec)

/-- ITS FALSE NEIGHBOUR: 'it returns false'. Refute it at one input. -/
def linksTurnedWrong : ChangeSpec := { name := "linksTurned", fn := fun _ => fun
  | [d1, d2, d3, d4] => { results := [.lit (.bool false)], args := [d1, d2, d3, d4] }
  | _ => none }
def LinksTurnedWrongFalsely : Prop := linksTurnedRow.holds Try.pinned (OpenSpec.ofChange linksTurnedWrong)

/-- 'rotakeep.CodesBounds': WHATEVER THE INPUT: true; the input reads as it did. -/
def codesBoundsSpec : ChangeSpec := { name := "codesBounds", fn := fun _ => fun
  | [d] => { results := [.lit (.bool true)], args := [d] }
  | _ => none }
def codesBoundsRow : OpenClaim := { program := "ytogmkocjidcmkaa", sum := "ef543ccb8b45d53600b6abc4031938ea967864ebcb23a271c370039cc2c50faa", func := "rota/rotakeep.CodesBounds", spec := "codesBounds", unfollowed := true, recurses := true, plainKeys := false, apart := false }
def CodesBoundsSaid : Prop := codesBoundsRow.holds Try.pinned (OpenSpec.ofChange codesBoundsSpec)

/-- ITS FALSE NEIGHBOUR: 'it returns false'. Refute it at one input. -/
def codesBoundsWrong : ChangeSpec := { name := "codesBounds", fn := fun _ => fun
  | [d] => { results := [.lit (.bool false)], args := [d] }
  | _ => none }
def CodesBoundsWrongFalsely : Prop := codesBoundsRow.holds Try.pinned (OpenSpec.ofChange codesBoundsWrong)

/-- 'rotakeep.GameLehman': WHATEVER THE INPUT: true; the input reads as it did. -/
def gameLehmanSpec : ChangeSpec := { name := "gameLehman", fn := fun _ => fun
  | [d1, d2, d3] => { results := [.lit (.bool true)], args := [d1, d2, d3] }
  | _ => none }
def gameLehmanRow : OpenClaim := { program := "ytogmkocjidcmkaa", sum := "ef543ccb8b45d53600b6abc4031938ea967864ebcb23a271c370039cc2c50faa", func := "rota/rotakeep.GameLehman", spec := "gameLehman", recurses := true, plainKeys := false, apart := false }
def GameLehmanSaid : Prop := gameLehmanRow.holds Try.pinned (OpenSpec.ofChange gameLehmanSpec)

/-- ITS FALSE NEIGHBOUR: 'it returns false'. Refute it at one input. -/
def gameLehmanWrong : ChangeSpec := { name := "gameLehman", fn := fun _ => fun
  | [d1, d2, d3] => { results := [.lit (.bool false)], args := [d1, d2, d3] }
  | _ => none }
def GameLehmanWrongFalsely : Prop := gameLehmanRow.holds Try.pinned (OpenSpec.ofChange gameLehmanWrong)

/-- 'rotakeep.AxiomsMeet': WHATEVER THE INPUT: true; the input reads as it did. -/
def axiomsMeetSpec : ChangeSpec := { name := "axiomsMeet", fn := fun _ => fun
  | [d] => { results := [.lit (.bool true)], args := [d] }
  | _ => none }
def axiomsMeetRow : OpenClaim := { program := "ytogmkocjidcmkaa", sum := "ef543ccb8b45d53600b6abc4031938ea967864ebcb23a271c370039cc2c50faa", func := "rota/rotakeep.AxiomsMeet", spec := "axiomsMeet", unfollowed := true, recurses := true, plainKeys := false, apart := false }
def AxiomsMeetSaid : Prop := axiomsMeetRow.holds Try.pinned (OpenSpec.ofChange axiomsMeetSpec)

/-- ITS FALSE NEIGHBOUR: 'it returns false'. Refute it at one input. -/
def axiomsMeetWrong : ChangeSpec := { name := "axiomsMeet", fn := fun _ => fun
  | [d] => { results := [.lit (.bool false)], args := [d] }
  | _ => none }
def AxiomsMeetWrongFalsely : Prop := axiomsMeetRow.holds Try.pinned (OpenSpec.ofChange axiomsMeetWrong)

/-- 'rotakeep.AxiomsStrong': WHATEVER THE INPUT: true; the input reads as it did. -/
def axiomsStrongSpec : ChangeSpec := { name := "axiomsStrong", fn := fun _ => fun
  | [d] => { results := [.lit (.bool true)], args := [d] }
  | _ => none }
def axiomsStrongRow : OpenClaim := { program := "ytogmkocjidcmkaa", sum := "ef543ccb8b45d53600b6abc4031938ea967864ebcb23a271c370039cc2c50faa", func := "rota/rotakeep.AxiomsStrong", spec := "axiomsStrong", unfollowed := true, recurses := true, plainKeys := false, apart := false }
def AxiomsStrongSaid : Prop := axiomsStrongRow.holds Try.pinned (OpenSpec.ofChange axiomsStrongSpec)

/-- ITS FALSE NEIGHBOUR: 'it returns false'. Refute it at one input. -/
def axiomsStrongWrong : ChangeSpec := { name := "axiomsStrong", fn := fun _ => fun
  | [d] => { results := [.lit (.bool false)], args := [d] }
  | _ => none }
def AxiomsStrongWrongFalsely : Prop := axiomsStrongRow.holds Try.pinned (OpenSpec.ofChange axiomsStrongWrong)

/-- 'rotakeep.GameFirst': WHATEVER THE INPUT: true; the input reads as it did. -/
def gameFirstSpec : ChangeSpec := { name := "gameFirst", fn := fun _ => fun
  | [d1, d2, d3] => { results := [.lit (.bool true)], args := [d1, d2, d3] }
  | _ => none }
def gameFirstRow : OpenClaim := { program := "ytogmkocjidcmkaa", sum := "ef543ccb8b45d53600b6abc4031938ea967864ebcb23a271c370039cc2c50faa", func := "rota/rotakeep.GameFirst", spec := "gameFirst", recurses := true, plainKeys := false, apart := false }
def GameFirstSaid : Prop := gameFirstRow.holds Try.pinned (OpenSpec.ofChange gameFirstSpec)

/-- ITS FALSE NEIGHBOUR: 'it returns false'. Refute it at one input. -/
def gameFirstWrong : ChangeSpec := { name := "gameFirst", fn := fun _ => fun
  | [d1, d2, d3] => { results := [.lit (.bool false)], args := [d1, d2, d3] }
  | _ => none }
def GameFirstWrongFalsely : Prop := gameFirstRow.holds Try.pinned (OpenSpec.ofChange gameFirstWrong)

/-- 'rotakeep.FlatsHeavy': WHATEVER THE INPUT: true; the input reads as it did. -/
def flatsHeavySpec : ChangeSpec := { name := "flatsHeavy", fn := fun _ => fun
  | [d] => { results := [.lit (.bool true)], args := [d] }
  | _ => none }
def flatsHeavyRow : OpenClaim := { program := "ytogmkocjidcmkaa", sum := "ef543ccb8b45d53600b6abc4031938ea967864ebcb23a271c370039cc2c50faa", func := "rota/rotakeep.FlatsHeavy", spec := "flatsHeavy", unfollowed := true, recurses := true, plainKeys := false, apart := false }
def FlatsHeavySaid : Prop := flatsHeavyRow.holds Try.pinned (OpenSpec.ofChange flatsHeavySpec)

/-- ITS FALSE NEIGHBOUR: 'it returns false'. Refute it at one input. -/
def flatsHeavyWrong : ChangeSpec := { name := "flatsHeavy", fn := fun _ => fun
  | [d] => { results := [.lit (.bool false)], args := [d] }
  | _ => none }
def FlatsHeavyWrongFalsely : Prop := flatsHeavyRow.holds Try.pinned (OpenSpec.ofChange flatsHeavyWrong)

/-- 'rotakeep.AxiomsRanks': WHATEVER THE INPUT: true; the input reads as it did. -/
def axiomsRanksSpec : ChangeSpec := { name := "axiomsRanks", fn := fun _ => fun
  | [d1, d2, d3] => { results := [.lit (.bool true)], args := [d1, d2, d3] }
  | _ => none }
def axiomsRanksRow : OpenClaim := { program := "ytogmkocjidcmkaa", sum := "ef543ccb8b45d53600b6abc4031938ea967864ebcb23a271c370039cc2c50faa", func := "rota/rotakeep.AxiomsRanks", spec := "axiomsRanks", unfollowed := true, recurses := true, plainKeys := false, apart := false }
def AxiomsRanksSaid : Prop := axiomsRanksRow.holds Try.pinned (OpenSpec.ofChange axiomsRanksSpec)

/-- ITS FALSE NEIGHBOUR: 'it returns false'. Refute it at one input. -/
def axiomsRanksWrong : ChangeSpec := { name := "axiomsRanks", fn := fun _ => fun
  | [d1, d2, d3] => { results := [.lit (.bool false)], args := [d1, d2, d3] }
  | _ => none }
def AxiomsRanksWrongFalsely : Prop := axiomsRanksRow.holds Try.pinned (OpenSpec.ofChange axiomsRanksWrong)

/-- 'rotakeep.KindsTotal': WHATEVER THE INPUT: true; the input reads as it did. -/
def kindsTotalSpec : ChangeSpec := { name := "kindsTotal", fn := fun _ => fun
  | [d1, d2] => { results := [.lit (.bool true)], args := [d1, d2] }
  | _ => none }
def kindsTotalRow : OpenClaim := { program := "ytogmkocjidcmkaa", sum := "ef543ccb8b45d53600b6abc4031938ea967864ebcb23a271c370039cc2c50faa", func := "rota/rotakeep.KindsTotal", spec := "kindsTotal", unfollowed := true, recurses := true, plainKeys := false, apart := false }
def KindsTotalSaid : Prop := kindsTotalRow.holds Try.pinned (OpenSpec.ofChange kindsTotalSpec)

/-- ITS FALSE NEIGHBOUR: 'it returns false'. Refute it at one input. -/
def kindsTotalWrong : ChangeSpec := { name := "kindsTotal", fn := fun _ => fun
  | [d1, d2] => { results := [.lit (.bool false)], args := [d1, d2] }
  | _ => none }
def KindsTotalWrongFalsely : Prop := kindsTotalRow.holds Try.pinned (OpenSpec.ofChange kindsTotalWrong)

/-- 'rotakeep.JoinCovers': WHATEVER THE INPUT: true; the input reads as it did. -/
def joinCoversSpec : ChangeSpec := { name := "joinCovers", fn := fun _ => fun
  | [d] => { results := [.lit (.bool true)], args := [d] }
  | _ => none }
def joinCoversRow : OpenClaim := { program := "ytogmkocjidcmkaa", sum := "ef543ccb8b45d53600b6abc4031938ea967864ebcb23a271c370039cc2c50faa", func := "rota/rotakeep.JoinCovers", spec := "joinCovers", recurses := true, plainKeys := false, apart := false }
def JoinCoversSaid : Prop := joinCoversRow.holds Try.pinned (OpenSpec.ofChange joinCoversSpec)

/-- ITS FALSE NEIGHBOUR: 'it returns false'. Refute it at one input. -/
def joinCoversWrong : ChangeSpec := { name := "joinCovers", fn := fun _ => fun
  | [d] => { results := [.lit (.bool false)], args := [d] }
  | _ => none }
def JoinCoversWrongFalsely : Prop := joinCoversRow.holds Try.pinned (OpenSpec.ofChange joinCoversWrong)

/-- 'rotakeep.JoinPacks': WHATEVER THE INPUT: true; the input reads as it did. -/
def joinPacksSpec : ChangeSpec := { name := "joinPacks", fn := fun _ => fun
  | [d] => { results := [.lit (.bool true)], args := [d] }
  | _ => none }
def joinPacksRow : OpenClaim := { program := "ytogmkocjidcmkaa", sum := "ef543ccb8b45d53600b6abc4031938ea967864ebcb23a271c370039cc2c50faa", func := "rota/rotakeep.JoinPacks", spec := "joinPacks", recurses := true, plainKeys := false, apart := false }
def JoinPacksSaid : Prop := joinPacksRow.holds Try.pinned (OpenSpec.ofChange joinPacksSpec)

/-- ITS FALSE NEIGHBOUR: 'it returns false'. Refute it at one input. -/
def joinPacksWrong : ChangeSpec := { name := "joinPacks", fn := fun _ => fun
  | [d] => { results := [.lit (.bool false)], args := [d] }
  | _ => none }
def JoinPacksWrongFalsely : Prop := joinPacksRow.holds Try.pinned (OpenSpec.ofChange joinPacksWrong)

/-- 'rotakeep.SubRanks': WHATEVER THE INPUT: true; the input reads as it did. -/
def subRanksSpec : ChangeSpec := { name := "subRanks", fn := fun _ => fun
  | [d] => { results := [.lit (.bool true)], args := [d] }
  | _ => none }
def subRanksRow : OpenClaim := { program := "ytogmkocjidcmkaa", sum := "ef543ccb8b45d53600b6abc4031938ea967864ebcb23a271c370039cc2c50faa", func := "rota/rotakeep.SubRanks", spec := "subRanks", plainKeys := false, apart := false }
def SubRanksSaid : Prop := subRanksRow.holds Try.pinned (OpenSpec.ofChange subRanksSpec)

/-- ITS FALSE NEIGHBOUR: 'it returns false'. Refute it at one input. -/
def subRanksWrong : ChangeSpec := { name := "subRanks", fn := fun _ => fun
  | [d] => { results := [.lit (.bool false)], args := [d] }
  | _ => none }
def SubRanksWrongFalsely : Prop := subRanksRow.holds Try.pinned (OpenSpec.ofChange subRanksWrong)

/- THE SECOND FORM. 'bulk': how many values and letters a reading holds, each counted each time it is reached (what is shared counts as often as it is met; a slice's spare places count too). A statement '..UptoSaid' is the law's where the arguments, and the package variables that the reading takes, are together of bulk at most 1048576: NARROWER than '..Said'. Prove '..Said' where nothing that the law and all that it calls make is longer than what came in: it says more and counts as full. Else prove '..UptoSaid'. A law counts once. -/
mutual
def uptoBulk {H : Type} : DataW H → Nat
  | .lit (.string bytes) => bytes.length + 1
  | .lit _ => 1
  | .nil => 1
  | .ptr d => uptoBulk d + 1
  | .slice elems spare => uptoBulkAll elems + uptoBulkAll spare + 1
  | .agg parts => uptoBulkAll parts + 1
  | .iface _ d => uptoBulk d + 1
  | .map entries => uptoBulkEntries entries + 1
  | .held _ => 1
def uptoBulkAll {H : Type} : List (DataW H) → Nat
  | [] => 0
  | d :: r => uptoBulk d + uptoBulkAll r
def uptoBulkEntries {H : Type} : List (Lit × DataW H) → Nat
  | [] => 0
  | x :: r => uptoBulkEntry x + uptoBulkEntries r
def uptoBulkEntry {H : Type} : Lit × DataW H → Nat
  | (.string bytes, d) => bytes.length + uptoBulk d + 1
  | (_, d) => uptoBulk d + 1
 end
def uptoSmall : (H : Type) → List (DataW H) → Bool := fun _ ds => decide (uptoBulkAll ds ≤ 1048576)
def OpenSpec.upto (s : _root_.Go.ChangeSpec) : _root_.Go.OpenSpec := { _root_.Go.OpenSpec.ofChange s with cond := some uptoSmall }

/-- 'rotakeep.LinksTurned', WHERE WHAT IT READS IS OF BULK AT MOST 1048576: true; the input reads as it did. -/
def linksTurnedUptoRow : OpenClaim := { program := "ytogmkocjidcmkaa", sum := "ef543ccb8b45d53600b6abc4031938ea967864ebcb23a271c370039cc2c50faa", func := "rota/rotakeep.LinksTurned", spec := "linksTurned", plainKeys := false, apart := false, narrowed := true }
def LinksTurnedUptoSaid : Prop := linksTurnedUptoRow.holds Try.pinned (OpenSpec.upto linksTurnedSpec)

/-- 'rotakeep.CodesBounds', WHERE WHAT IT READS IS OF BULK AT MOST 1048576: true; the input reads as it did. -/
def codesBoundsUptoRow : OpenClaim := { program := "ytogmkocjidcmkaa", sum := "ef543ccb8b45d53600b6abc4031938ea967864ebcb23a271c370039cc2c50faa", func := "rota/rotakeep.CodesBounds", spec := "codesBounds", unfollowed := true, recurses := true, plainKeys := false, apart := false, narrowed := true }
def CodesBoundsUptoSaid : Prop := codesBoundsUptoRow.holds Try.pinned (OpenSpec.upto codesBoundsSpec)

/-- 'rotakeep.GameLehman', WHERE WHAT IT READS IS OF BULK AT MOST 1048576: true; the input reads as it did. -/
def gameLehmanUptoRow : OpenClaim := { program := "ytogmkocjidcmkaa", sum := "ef543ccb8b45d53600b6abc4031938ea967864ebcb23a271c370039cc2c50faa", func := "rota/rotakeep.GameLehman", spec := "gameLehman", recurses := true, plainKeys := false, apart := false, narrowed := true }
def GameLehmanUptoSaid : Prop := gameLehmanUptoRow.holds Try.pinned (OpenSpec.upto gameLehmanSpec)

/-- 'rotakeep.AxiomsMeet', WHERE WHAT IT READS IS OF BULK AT MOST 1048576: true; the input reads as it did. -/
def axiomsMeetUptoRow : OpenClaim := { program := "ytogmkocjidcmkaa", sum := "ef543ccb8b45d53600b6abc4031938ea967864ebcb23a271c370039cc2c50faa", func := "rota/rotakeep.AxiomsMeet", spec := "axiomsMeet", unfollowed := true, recurses := true, plainKeys := false, apart := false, narrowed := true }
def AxiomsMeetUptoSaid : Prop := axiomsMeetUptoRow.holds Try.pinned (OpenSpec.upto axiomsMeetSpec)

/-- 'rotakeep.AxiomsStrong', WHERE WHAT IT READS IS OF BULK AT MOST 1048576: true; the input reads as it did. -/
def axiomsStrongUptoRow : OpenClaim := { program := "ytogmkocjidcmkaa", sum := "ef543ccb8b45d53600b6abc4031938ea967864ebcb23a271c370039cc2c50faa", func := "rota/rotakeep.AxiomsStrong", spec := "axiomsStrong", unfollowed := true, recurses := true, plainKeys := false, apart := false, narrowed := true }
def AxiomsStrongUptoSaid : Prop := axiomsStrongUptoRow.holds Try.pinned (OpenSpec.upto axiomsStrongSpec)

/-- 'rotakeep.GameFirst', WHERE WHAT IT READS IS OF BULK AT MOST 1048576: true; the input reads as it did. -/
def gameFirstUptoRow : OpenClaim := { program := "ytogmkocjidcmkaa", sum := "ef543ccb8b45d53600b6abc4031938ea967864ebcb23a271c370039cc2c50faa", func := "rota/rotakeep.GameFirst", spec := "gameFirst", recurses := true, plainKeys := false, apart := false, narrowed := true }
def GameFirstUptoSaid : Prop := gameFirstUptoRow.holds Try.pinned (OpenSpec.upto gameFirstSpec)

/-- 'rotakeep.FlatsHeavy', WHERE WHAT IT READS IS OF BULK AT MOST 1048576: true; the input reads as it did. -/
def flatsHeavyUptoRow : OpenClaim := { program := "ytogmkocjidcmkaa", sum := "ef543ccb8b45d53600b6abc4031938ea967864ebcb23a271c370039cc2c50faa", func := "rota/rotakeep.FlatsHeavy", spec := "flatsHeavy", unfollowed := true, recurses := true, plainKeys := false, apart := false, narrowed := true }
def FlatsHeavyUptoSaid : Prop := flatsHeavyUptoRow.holds Try.pinned (OpenSpec.upto flatsHeavySpec)

/-- 'rotakeep.AxiomsRanks', WHERE WHAT IT READS IS OF BULK AT MOST 1048576: true; the input reads as it did. -/
def axiomsRanksUptoRow : OpenClaim := { program := "ytogmkocjidcmkaa", sum := "ef543ccb8b45d53600b6abc4031938ea967864ebcb23a271c370039cc2c50faa", func := "rota/rotakeep.AxiomsRanks", spec := "axiomsRanks", unfollowed := true, recurses := true, plainKeys := false, apart := false, narrowed := true }
def AxiomsRanksUptoSaid : Prop := axiomsRanksUptoRow.holds Try.pinned (OpenSpec.upto axiomsRanksSpec)

/-- 'rotakeep.KindsTotal', WHERE WHAT IT READS IS OF BULK AT MOST 1048576: true; the input reads as it did. -/
def kindsTotalUptoRow : OpenClaim := { program := "ytogmkocjidcmkaa", sum := "ef543ccb8b45d53600b6abc4031938ea967864ebcb23a271c370039cc2c50faa", func := "rota/rotakeep.KindsTotal", spec := "kindsTotal", unfollowed := true, recurses := true, plainKeys := false, apart := false, narrowed := true }
def KindsTotalUptoSaid : Prop := kindsTotalUptoRow.holds Try.pinned (OpenSpec.upto kindsTotalSpec)

/-- 'rotakeep.JoinCovers', WHERE WHAT IT READS IS OF BULK AT MOST 1048576: true; the input reads as it did. -/
def joinCoversUptoRow : OpenClaim := { program := "ytogmkocjidcmkaa", sum := "ef543ccb8b45d53600b6abc4031938ea967864ebcb23a271c370039cc2c50faa", func := "rota/rotakeep.JoinCovers", spec := "joinCovers", recurses := true, plainKeys := false, apart := false, narrowed := true }
def JoinCoversUptoSaid : Prop := joinCoversUptoRow.holds Try.pinned (OpenSpec.upto joinCoversSpec)

/-- 'rotakeep.JoinPacks', WHERE WHAT IT READS IS OF BULK AT MOST 1048576: true; the input reads as it did. -/
def joinPacksUptoRow : OpenClaim := { program := "ytogmkocjidcmkaa", sum := "ef543ccb8b45d53600b6abc4031938ea967864ebcb23a271c370039cc2c50faa", func := "rota/rotakeep.JoinPacks", spec := "joinPacks", recurses := true, plainKeys := false, apart := false, narrowed := true }
def JoinPacksUptoSaid : Prop := joinPacksUptoRow.holds Try.pinned (OpenSpec.upto joinPacksSpec)

/-- 'rotakeep.SubRanks', WHERE WHAT IT READS IS OF BULK AT MOST 1048576: true; the input reads as it did. -/
def subRanksUptoRow : OpenClaim := { program := "ytogmkocjidcmkaa", sum := "ef543ccb8b45d53600b6abc4031938ea967864ebcb23a271c370039cc2c50faa", func := "rota/rotakeep.SubRanks", spec := "subRanks", plainKeys := false, apart := false, narrowed := true }
def SubRanksUptoSaid : Prop := subRanksUptoRow.holds Try.pinned (OpenSpec.upto subRanksSpec)

end Rows
end Go.Proofs.Ytogmkocjidcmkaa
