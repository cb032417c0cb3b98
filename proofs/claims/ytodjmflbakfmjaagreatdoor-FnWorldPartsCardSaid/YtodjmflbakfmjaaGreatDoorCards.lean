/-
  DERIVED. GIVEN WITH THE SEED: THE CARDS: each row of YtodjmflbakfmjaaGreatDoorRows.lean that lists a variable, with what it lists TIED to the program's text (the seventh form; the later family's looks); each row that meets fmt, with fmt's text TOLD by the authors' own Lean function (tested against real Go, not proved from fmt's source: count such statements apart). THE CARD IS WHAT COUNTS. Prove the row's statement (the work); the ties are given (YtodjmflbakfmjaaGreatDoorTie.lean); close each card by the builder's one call (the guide's Derived/Test/ToyasCard.lean, 'card_holds'). Laid BY PROGRAM, IN A SANDBOX (cutbox-door.mjs). By AI agents, Wed Nov 11 2026. No macro, syntax, notation, axiom, sorry.
-/
import Derived.Test.YtodjmflbakfmjaaGreatDoorRows
import GoSem.ClaimSeven
namespace Go.Proofs.YtodjmflbakfmjaaGreatDoor
namespace Rows

/-- THE TIED CARD OF 'laws.FnWorldSent'. -/
def fnWorldSentCard : Claim7 := { stood := { row := fnWorldSentRow, standIns := [], harness := (true, "d0b46a6e766ca4fe84f35d46e899bf09a27ce667beb0bfa30fb8561d16645a38"), looks := false }, kinds := [], alts := [], laidByText := true, laidKinds := [.data, .data, .data], laidTests := true, laidLooks := .later }
def FnWorldSentCardSaid : Prop := Claim7.holds Tryz.pinned (.plain (OpenSpec.ofChange fnWorldSentSpec)) fnWorldSentCard

/-- THE TIED CARD OF 'laws.FnWorldWindow'. -/
def fnWorldWindowCard : Claim7 := { stood := { row := fnWorldWindowRow, standIns := [], harness := (true, "d0b46a6e766ca4fe84f35d46e899bf09a27ce667beb0bfa30fb8561d16645a38"), looks := false }, kinds := [], alts := [], laidByText := true, laidKinds := [.data, .data, .data], laidTests := true, laidLooks := .later }
def FnWorldWindowCardSaid : Prop := Claim7.holds Tryz.pinned (.plain (OpenSpec.ofChange fnWorldWindowSpec)) fnWorldWindowCard

/-- THE TIED CARD OF 'laws.FnWorldCalm'. -/
def fnWorldCalmCard : Claim7 := { stood := { row := fnWorldCalmRow, standIns := [], harness := (true, "d0b46a6e766ca4fe84f35d46e899bf09a27ce667beb0bfa30fb8561d16645a38"), looks := false }, kinds := [], alts := [], laidByText := true, laidKinds := [.data, .data, .data], laidTests := true, laidLooks := .later }
def FnWorldCalmCardSaid : Prop := Claim7.holds Tryz.pinned (.plain (OpenSpec.ofChange fnWorldCalmSpec)) fnWorldCalmCard

/-- THE TIED CARD OF 'laws.FnWorldOwn'. -/
def fnWorldOwnCard : Claim7 := { stood := { row := fnWorldOwnRow, standIns := [], harness := (true, "d0b46a6e766ca4fe84f35d46e899bf09a27ce667beb0bfa30fb8561d16645a38"), looks := false }, kinds := [], alts := [], laidByText := true, laidKinds := [.data, .data, .data], laidTests := true, laidLooks := .later }
def FnWorldOwnCardSaid : Prop := Claim7.holds Tryz.pinned (.plain (OpenSpec.ofChange fnWorldOwnSpec)) fnWorldOwnCard

/-- THE TIED CARD OF 'laws.FnWorldLeft'. -/
def fnWorldLeftCard : Claim7 := { stood := { row := fnWorldLeftRow, standIns := [], harness := (true, "d0b46a6e766ca4fe84f35d46e899bf09a27ce667beb0bfa30fb8561d16645a38"), looks := false }, kinds := [], alts := [], laidByText := true, laidKinds := [.data, .data, .data], laidTests := true, laidLooks := .later }
def FnWorldLeftCardSaid : Prop := Claim7.holds Tryz.pinned (.plain (OpenSpec.ofChange fnWorldLeftSpec)) fnWorldLeftCard

/-- THE TIED CARD OF 'laws.FnWorldIdle'. -/
def fnWorldIdleCard : Claim7 := { stood := { row := fnWorldIdleRow, standIns := [], harness := (true, "d0b46a6e766ca4fe84f35d46e899bf09a27ce667beb0bfa30fb8561d16645a38"), looks := false }, kinds := [], alts := [], laidByText := true, laidKinds := [.data, .data, .data], laidTests := true, laidLooks := .later }
def FnWorldIdleCardSaid : Prop := Claim7.holds Tryz.pinned (.plain (OpenSpec.ofChange fnWorldIdleSpec)) fnWorldIdleCard

/-- THE TIED CARD OF 'laws.FnWorldParts'. -/
def fnWorldPartsCard : Claim7 := { stood := { row := fnWorldPartsRow, standIns := [], harness := (true, "d0b46a6e766ca4fe84f35d46e899bf09a27ce667beb0bfa30fb8561d16645a38"), looks := false }, kinds := [], alts := [], laidByText := true, laidKinds := [.data, .data, .data], laidTests := true, laidLooks := .later }
def FnWorldPartsCardSaid : Prop := Claim7.holds Tryz.pinned (.plain (OpenSpec.ofChange fnWorldPartsSpec)) fnWorldPartsCard

/-- THE TIED CARD OF 'laws.FnWorldPass'. -/
def fnWorldPassCard : Claim7 := { stood := { row := fnWorldPassRow, standIns := [], harness := (true, "d0b46a6e766ca4fe84f35d46e899bf09a27ce667beb0bfa30fb8561d16645a38"), looks := false }, kinds := [], alts := [], laidByText := true, laidKinds := [.data, .data, .data], laidTests := true, laidLooks := .later }
def FnWorldPassCardSaid : Prop := Claim7.holds Tryz.pinned (.plain (OpenSpec.ofChange fnWorldPassSpec)) fnWorldPassCard

/-- THE TIED CARD OF 'laws.FnWorldWrite'. -/
def fnWorldWriteCard : Claim7 := { stood := { row := fnWorldWriteRow, standIns := [], harness := (true, "d0b46a6e766ca4fe84f35d46e899bf09a27ce667beb0bfa30fb8561d16645a38"), looks := false }, kinds := [], alts := [], laidByText := true, laidKinds := [.data, .data, .data], laidTests := true, laidLooks := .later }
def FnWorldWriteCardSaid : Prop := Claim7.holds Tryz.pinned (.plain (OpenSpec.ofChange fnWorldWriteSpec)) fnWorldWriteCard

/-- THE TIED CARD OF 'laws.FnWorldDo'. -/
def fnWorldDoCard : Claim7 := { stood := { row := fnWorldDoRow, standIns := [], harness := (true, "d0b46a6e766ca4fe84f35d46e899bf09a27ce667beb0bfa30fb8561d16645a38"), looks := false }, kinds := [], alts := [], laidByText := true, laidKinds := [.data, .data, .data], laidTests := true, laidLooks := .later }
def FnWorldDoCardSaid : Prop := Claim7.holds Tryz.pinned (.plain (OpenSpec.ofChange fnWorldDoSpec)) fnWorldDoCard

/-- THE TIED CARD OF 'laws.FnWorldRounds'. -/
def fnWorldRoundsCard : Claim7 := { stood := { row := fnWorldRoundsRow, standIns := [], harness := (true, "d0b46a6e766ca4fe84f35d46e899bf09a27ce667beb0bfa30fb8561d16645a38"), looks := false }, kinds := [], alts := [], laidByText := true, laidKinds := [.data, .data, .data], laidTests := true, laidLooks := .later }
def FnWorldRoundsCardSaid : Prop := Claim7.holds Tryz.pinned (.plain (OpenSpec.ofChange fnWorldRoundsSpec)) fnWorldRoundsCard

/-- THE TIED CARD OF 'laws.FnHearBad'. -/
def fnHearBadCard : Claim7 := { stood := { row := fnHearBadRow, standIns := [], harness := (true, "d0b46a6e766ca4fe84f35d46e899bf09a27ce667beb0bfa30fb8561d16645a38"), looks := false }, kinds := [], alts := [], laidByText := true, laidKinds := [.data, .data, .data], laidTests := true, laidLooks := .later }
def FnHearBadCardSaid : Prop := Claim7.holds Tryz.pinned (.plain (OpenSpec.ofChange fnHearBadSpec)) fnHearBadCard

/-- THE SECOND FORM's CARD OF 'laws.FnWorldSent'. -/
def fnWorldSentUptoCard : Claim7 := { stood := { row := fnWorldSentUptoRow, standIns := [], harness := (true, "d0b46a6e766ca4fe84f35d46e899bf09a27ce667beb0bfa30fb8561d16645a38"), looks := false }, kinds := [], alts := [], laidByText := true, laidKinds := [.data, .data, .data], laidTests := true, laidLooks := .later }
def FnWorldSentUptoCardSaid : Prop := Claim7.holds Tryz.pinned (.plain (OpenSpec.upto fnWorldSentSpec)) fnWorldSentUptoCard

/-- THE SECOND FORM's CARD OF 'laws.FnWorldWindow'. -/
def fnWorldWindowUptoCard : Claim7 := { stood := { row := fnWorldWindowUptoRow, standIns := [], harness := (true, "d0b46a6e766ca4fe84f35d46e899bf09a27ce667beb0bfa30fb8561d16645a38"), looks := false }, kinds := [], alts := [], laidByText := true, laidKinds := [.data, .data, .data], laidTests := true, laidLooks := .later }
def FnWorldWindowUptoCardSaid : Prop := Claim7.holds Tryz.pinned (.plain (OpenSpec.upto fnWorldWindowSpec)) fnWorldWindowUptoCard

/-- THE SECOND FORM's CARD OF 'laws.FnWorldCalm'. -/
def fnWorldCalmUptoCard : Claim7 := { stood := { row := fnWorldCalmUptoRow, standIns := [], harness := (true, "d0b46a6e766ca4fe84f35d46e899bf09a27ce667beb0bfa30fb8561d16645a38"), looks := false }, kinds := [], alts := [], laidByText := true, laidKinds := [.data, .data, .data], laidTests := true, laidLooks := .later }
def FnWorldCalmUptoCardSaid : Prop := Claim7.holds Tryz.pinned (.plain (OpenSpec.upto fnWorldCalmSpec)) fnWorldCalmUptoCard

/-- THE SECOND FORM's CARD OF 'laws.FnWorldOwn'. -/
def fnWorldOwnUptoCard : Claim7 := { stood := { row := fnWorldOwnUptoRow, standIns := [], harness := (true, "d0b46a6e766ca4fe84f35d46e899bf09a27ce667beb0bfa30fb8561d16645a38"), looks := false }, kinds := [], alts := [], laidByText := true, laidKinds := [.data, .data, .data], laidTests := true, laidLooks := .later }
def FnWorldOwnUptoCardSaid : Prop := Claim7.holds Tryz.pinned (.plain (OpenSpec.upto fnWorldOwnSpec)) fnWorldOwnUptoCard

/-- THE SECOND FORM's CARD OF 'laws.FnWorldLeft'. -/
def fnWorldLeftUptoCard : Claim7 := { stood := { row := fnWorldLeftUptoRow, standIns := [], harness := (true, "d0b46a6e766ca4fe84f35d46e899bf09a27ce667beb0bfa30fb8561d16645a38"), looks := false }, kinds := [], alts := [], laidByText := true, laidKinds := [.data, .data, .data], laidTests := true, laidLooks := .later }
def FnWorldLeftUptoCardSaid : Prop := Claim7.holds Tryz.pinned (.plain (OpenSpec.upto fnWorldLeftSpec)) fnWorldLeftUptoCard

/-- THE SECOND FORM's CARD OF 'laws.FnWorldIdle'. -/
def fnWorldIdleUptoCard : Claim7 := { stood := { row := fnWorldIdleUptoRow, standIns := [], harness := (true, "d0b46a6e766ca4fe84f35d46e899bf09a27ce667beb0bfa30fb8561d16645a38"), looks := false }, kinds := [], alts := [], laidByText := true, laidKinds := [.data, .data, .data], laidTests := true, laidLooks := .later }
def FnWorldIdleUptoCardSaid : Prop := Claim7.holds Tryz.pinned (.plain (OpenSpec.upto fnWorldIdleSpec)) fnWorldIdleUptoCard

/-- THE SECOND FORM's CARD OF 'laws.FnWorldParts'. -/
def fnWorldPartsUptoCard : Claim7 := { stood := { row := fnWorldPartsUptoRow, standIns := [], harness := (true, "d0b46a6e766ca4fe84f35d46e899bf09a27ce667beb0bfa30fb8561d16645a38"), looks := false }, kinds := [], alts := [], laidByText := true, laidKinds := [.data, .data, .data], laidTests := true, laidLooks := .later }
def FnWorldPartsUptoCardSaid : Prop := Claim7.holds Tryz.pinned (.plain (OpenSpec.upto fnWorldPartsSpec)) fnWorldPartsUptoCard

/-- THE SECOND FORM's CARD OF 'laws.FnWorldPass'. -/
def fnWorldPassUptoCard : Claim7 := { stood := { row := fnWorldPassUptoRow, standIns := [], harness := (true, "d0b46a6e766ca4fe84f35d46e899bf09a27ce667beb0bfa30fb8561d16645a38"), looks := false }, kinds := [], alts := [], laidByText := true, laidKinds := [.data, .data, .data], laidTests := true, laidLooks := .later }
def FnWorldPassUptoCardSaid : Prop := Claim7.holds Tryz.pinned (.plain (OpenSpec.upto fnWorldPassSpec)) fnWorldPassUptoCard

/-- THE SECOND FORM's CARD OF 'laws.FnWorldWrite'. -/
def fnWorldWriteUptoCard : Claim7 := { stood := { row := fnWorldWriteUptoRow, standIns := [], harness := (true, "d0b46a6e766ca4fe84f35d46e899bf09a27ce667beb0bfa30fb8561d16645a38"), looks := false }, kinds := [], alts := [], laidByText := true, laidKinds := [.data, .data, .data], laidTests := true, laidLooks := .later }
def FnWorldWriteUptoCardSaid : Prop := Claim7.holds Tryz.pinned (.plain (OpenSpec.upto fnWorldWriteSpec)) fnWorldWriteUptoCard

/-- THE SECOND FORM's CARD OF 'laws.FnWorldDo'. -/
def fnWorldDoUptoCard : Claim7 := { stood := { row := fnWorldDoUptoRow, standIns := [], harness := (true, "d0b46a6e766ca4fe84f35d46e899bf09a27ce667beb0bfa30fb8561d16645a38"), looks := false }, kinds := [], alts := [], laidByText := true, laidKinds := [.data, .data, .data], laidTests := true, laidLooks := .later }
def FnWorldDoUptoCardSaid : Prop := Claim7.holds Tryz.pinned (.plain (OpenSpec.upto fnWorldDoSpec)) fnWorldDoUptoCard

/-- THE SECOND FORM's CARD OF 'laws.FnWorldRounds'. -/
def fnWorldRoundsUptoCard : Claim7 := { stood := { row := fnWorldRoundsUptoRow, standIns := [], harness := (true, "d0b46a6e766ca4fe84f35d46e899bf09a27ce667beb0bfa30fb8561d16645a38"), looks := false }, kinds := [], alts := [], laidByText := true, laidKinds := [.data, .data, .data], laidTests := true, laidLooks := .later }
def FnWorldRoundsUptoCardSaid : Prop := Claim7.holds Tryz.pinned (.plain (OpenSpec.upto fnWorldRoundsSpec)) fnWorldRoundsUptoCard

/-- THE SECOND FORM's CARD OF 'laws.FnHearBad'. -/
def fnHearBadUptoCard : Claim7 := { stood := { row := fnHearBadUptoRow, standIns := [], harness := (true, "d0b46a6e766ca4fe84f35d46e899bf09a27ce667beb0bfa30fb8561d16645a38"), looks := false }, kinds := [], alts := [], laidByText := true, laidKinds := [.data, .data, .data], laidTests := true, laidLooks := .later }
def FnHearBadUptoCardSaid : Prop := Claim7.holds Tryz.pinned (.plain (OpenSpec.upto fnHearBadSpec)) fnHearBadUptoCard
end Rows
end Go.Proofs.YtodjmflbakfmjaaGreatDoor
