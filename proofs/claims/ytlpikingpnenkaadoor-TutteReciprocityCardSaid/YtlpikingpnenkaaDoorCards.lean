/-
  DERIVED. GIVEN WITH THE SEED: THE CARDS: each row of YtlpikingpnenkaaDoorRows.lean that lists a variable, with what it lists TIED to the program's text (the seventh form; the later family's looks); each row that meets fmt, with fmt's text TOLD by the authors' own Lean function (tested against real Go, not proved from fmt's source: count such statements apart). THE CARD IS WHAT COUNTS. Prove the row's statement (the work); the ties are given (YtlpikingpnenkaaDoorTie.lean); close each card by the builder's one call (the guide's Derived/Test/ToyasCard.lean, 'card_holds'). Laid BY PROGRAM, IN A SANDBOX (cutbox-door.mjs). By AI agents, Wed Nov 11 2026. No macro, syntax, notation, axiom, sorry.
-/
import Derived.Test.YtlpikingpnenkaaDoorRows
import GoSem.ClaimSeven
namespace Go.Proofs.YtlpikingpnenkaaDoor
namespace Rows

/-- THE TIED CARD OF 'rotakeep.TutteReciprocity'. -/
def tutteReciprocityCard : Claim7 := { stood := { row := tutteReciprocityRow, standIns := [], harness := (true, "01c333a4be78a566f4e19342a624d2b55aa47b6eb145e14bc276bedf4946fe5b"), looks := false }, kinds := [], alts := [], laidByText := true, laidKinds := [.data, .data, .data], laidTests := true, laidLooks := .later }
def TutteReciprocityCardSaid : Prop := Claim7.holds Tryd.pinned (.plain (OpenSpec.ofChange tutteReciprocitySpec)) tutteReciprocityCard

/-- THE TIED CARD OF 'rotakeep.TutteFlows'. -/
def tutteFlowsCard : Claim7 := { stood := { row := tutteFlowsRow, standIns := [], harness := (true, "01c333a4be78a566f4e19342a624d2b55aa47b6eb145e14bc276bedf4946fe5b"), looks := false }, kinds := [], alts := [], laidByText := true, laidKinds := [.data, .data, .data], laidTests := true, laidLooks := .later }
def TutteFlowsCardSaid : Prop := Claim7.holds Tryd.pinned (.plain (OpenSpec.ofChange tutteFlowsSpec)) tutteFlowsCard

/-- THE SECOND FORM's CARD OF 'rotakeep.TutteReciprocity'. -/
def tutteReciprocityUptoCard : Claim7 := { stood := { row := tutteReciprocityUptoRow, standIns := [], harness := (true, "01c333a4be78a566f4e19342a624d2b55aa47b6eb145e14bc276bedf4946fe5b"), looks := false }, kinds := [], alts := [], laidByText := true, laidKinds := [.data, .data, .data], laidTests := true, laidLooks := .later }
def TutteReciprocityUptoCardSaid : Prop := Claim7.holds Tryd.pinned (.plain (OpenSpec.upto tutteReciprocitySpec)) tutteReciprocityUptoCard

/-- THE SECOND FORM's CARD OF 'rotakeep.TutteFlows'. -/
def tutteFlowsUptoCard : Claim7 := { stood := { row := tutteFlowsUptoRow, standIns := [], harness := (true, "01c333a4be78a566f4e19342a624d2b55aa47b6eb145e14bc276bedf4946fe5b"), looks := false }, kinds := [], alts := [], laidByText := true, laidKinds := [.data, .data, .data], laidTests := true, laidLooks := .later }
def TutteFlowsUptoCardSaid : Prop := Claim7.holds Tryd.pinned (.plain (OpenSpec.upto tutteFlowsSpec)) tutteFlowsUptoCard
end Rows
end Go.Proofs.YtlpikingpnenkaaDoor
