/-
  DERIVED. GIVEN WITH THE SEED: THE CARDS: each row of YtobpcecpfojpmaaDoorRows.lean that lists a variable, with what it lists TIED to the program's text (the seventh form; the later family's looks); each row that meets fmt, with fmt's text TOLD by the authors' own Lean function (tested against real Go, not proved from fmt's source: count such statements apart). THE CARD IS WHAT COUNTS. Prove the row's statement (the work); the ties are given (YtobpcecpfojpmaaDoorTie.lean); close each card by the builder's one call (the guide's Derived/Test/ToyasCard.lean, 'card_holds'). Laid BY PROGRAM, IN A SANDBOX (cutbox-door.mjs). By AI agents, Wed Nov 11 2026. No macro, syntax, notation, axiom, sorry.
-/
import Derived.Test.YtobpcecpfojpmaaDoorRows
import GoSem.ClaimSeven
namespace Go.Proofs.YtobpcecpfojpmaaDoor
namespace Rows

/-- THE TIED CARD OF 'rotakeep.HallOre'. -/
def hallOreCard : Claim7 := { stood := { row := hallOreRow, standIns := [], harness := (true, "3056c9c57501ed75931edee0b8ad02eabf0bca0999a39f95aa2fbe9ed71972f9"), looks := false }, kinds := [], alts := [], laidByText := true, laidKinds := [.data, .data], laidTests := true, laidLooks := .later }
def HallOreCardSaid : Prop := Claim7.holds Tryd.pinned (.plain (OpenSpec.ofChange hallOreSpec)) hallOreCard

/-- THE TIED CARD OF 'rotakeep.ConvexLines'. -/
def convexLinesCard : Claim7 := { stood := { row := convexLinesRow, standIns := [], harness := (true, "3056c9c57501ed75931edee0b8ad02eabf0bca0999a39f95aa2fbe9ed71972f9"), looks := false }, kinds := [], alts := [], laidByText := true, laidKinds := [.data, .data], laidTests := true, laidLooks := .later }
def ConvexLinesCardSaid : Prop := Claim7.holds Tryd.pinned (.plain (OpenSpec.ofChange convexLinesSpec)) convexLinesCard

/-- THE TIED CARD OF 'rotakeep.ConvexOrders'. -/
def convexOrdersCard : Claim7 := { stood := { row := convexOrdersRow, standIns := [], harness := (true, "3056c9c57501ed75931edee0b8ad02eabf0bca0999a39f95aa2fbe9ed71972f9"), looks := false }, kinds := [], alts := [], laidByText := true, laidKinds := [.data, .data], laidTests := true, laidLooks := .later }
def ConvexOrdersCardSaid : Prop := Claim7.holds Tryd.pinned (.plain (OpenSpec.ofChange convexOrdersSpec)) convexOrdersCard

/-- THE TIED CARD OF 'rotakeep.HallMarries'. -/
def hallMarriesCard : Claim7 := { stood := { row := hallMarriesRow, standIns := [], harness := (true, "3056c9c57501ed75931edee0b8ad02eabf0bca0999a39f95aa2fbe9ed71972f9"), looks := false }, kinds := [], alts := [], laidByText := true, laidKinds := [.data, .data], laidTests := true, laidLooks := .later }
def HallMarriesCardSaid : Prop := Claim7.holds Tryd.pinned (.plain (OpenSpec.ofChange hallMarriesSpec)) hallMarriesCard

/-- THE TIED CARD OF 'rotakeep.MeetMatches'. -/
def meetMatchesCard : Claim7 := { stood := { row := meetMatchesRow, standIns := [], harness := (true, "3056c9c57501ed75931edee0b8ad02eabf0bca0999a39f95aa2fbe9ed71972f9"), looks := false }, kinds := [], alts := [], laidByText := true, laidKinds := [.data, .data], laidTests := true, laidLooks := .later }
def MeetMatchesCardSaid : Prop := Claim7.holds Tryd.pinned (.plain (OpenSpec.ofChange meetMatchesSpec)) meetMatchesCard

/-- THE TIED CARD OF 'rotakeep.HallFree'. -/
def hallFreeCard : Claim7 := { stood := { row := hallFreeRow, standIns := [], harness := (true, "3056c9c57501ed75931edee0b8ad02eabf0bca0999a39f95aa2fbe9ed71972f9"), looks := false }, kinds := [], alts := [], laidByText := true, laidKinds := [.data, .data], laidTests := true, laidLooks := .later }
def HallFreeCardSaid : Prop := Claim7.holds Tryd.pinned (.plain (OpenSpec.ofChange hallFreeSpec)) hallFreeCard

/-- THE SECOND FORM's CARD OF 'rotakeep.HallOre'. -/
def hallOreUptoCard : Claim7 := { stood := { row := hallOreUptoRow, standIns := [], harness := (true, "3056c9c57501ed75931edee0b8ad02eabf0bca0999a39f95aa2fbe9ed71972f9"), looks := false }, kinds := [], alts := [], laidByText := true, laidKinds := [.data, .data], laidTests := true, laidLooks := .later }
def HallOreUptoCardSaid : Prop := Claim7.holds Tryd.pinned (.plain (OpenSpec.upto hallOreSpec)) hallOreUptoCard

/-- THE SECOND FORM's CARD OF 'rotakeep.ConvexLines'. -/
def convexLinesUptoCard : Claim7 := { stood := { row := convexLinesUptoRow, standIns := [], harness := (true, "3056c9c57501ed75931edee0b8ad02eabf0bca0999a39f95aa2fbe9ed71972f9"), looks := false }, kinds := [], alts := [], laidByText := true, laidKinds := [.data, .data], laidTests := true, laidLooks := .later }
def ConvexLinesUptoCardSaid : Prop := Claim7.holds Tryd.pinned (.plain (OpenSpec.upto convexLinesSpec)) convexLinesUptoCard

/-- THE SECOND FORM's CARD OF 'rotakeep.ConvexOrders'. -/
def convexOrdersUptoCard : Claim7 := { stood := { row := convexOrdersUptoRow, standIns := [], harness := (true, "3056c9c57501ed75931edee0b8ad02eabf0bca0999a39f95aa2fbe9ed71972f9"), looks := false }, kinds := [], alts := [], laidByText := true, laidKinds := [.data, .data], laidTests := true, laidLooks := .later }
def ConvexOrdersUptoCardSaid : Prop := Claim7.holds Tryd.pinned (.plain (OpenSpec.upto convexOrdersSpec)) convexOrdersUptoCard

/-- THE SECOND FORM's CARD OF 'rotakeep.HallMarries'. -/
def hallMarriesUptoCard : Claim7 := { stood := { row := hallMarriesUptoRow, standIns := [], harness := (true, "3056c9c57501ed75931edee0b8ad02eabf0bca0999a39f95aa2fbe9ed71972f9"), looks := false }, kinds := [], alts := [], laidByText := true, laidKinds := [.data, .data], laidTests := true, laidLooks := .later }
def HallMarriesUptoCardSaid : Prop := Claim7.holds Tryd.pinned (.plain (OpenSpec.upto hallMarriesSpec)) hallMarriesUptoCard

/-- THE SECOND FORM's CARD OF 'rotakeep.MeetMatches'. -/
def meetMatchesUptoCard : Claim7 := { stood := { row := meetMatchesUptoRow, standIns := [], harness := (true, "3056c9c57501ed75931edee0b8ad02eabf0bca0999a39f95aa2fbe9ed71972f9"), looks := false }, kinds := [], alts := [], laidByText := true, laidKinds := [.data, .data], laidTests := true, laidLooks := .later }
def MeetMatchesUptoCardSaid : Prop := Claim7.holds Tryd.pinned (.plain (OpenSpec.upto meetMatchesSpec)) meetMatchesUptoCard

/-- THE SECOND FORM's CARD OF 'rotakeep.HallFree'. -/
def hallFreeUptoCard : Claim7 := { stood := { row := hallFreeUptoRow, standIns := [], harness := (true, "3056c9c57501ed75931edee0b8ad02eabf0bca0999a39f95aa2fbe9ed71972f9"), looks := false }, kinds := [], alts := [], laidByText := true, laidKinds := [.data, .data], laidTests := true, laidLooks := .later }
def HallFreeUptoCardSaid : Prop := Claim7.holds Tryd.pinned (.plain (OpenSpec.upto hallFreeSpec)) hallFreeUptoCard
end Rows
end Go.Proofs.YtobpcecpfojpmaaDoor
