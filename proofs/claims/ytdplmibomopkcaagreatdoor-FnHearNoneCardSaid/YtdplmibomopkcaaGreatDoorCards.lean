/-
  DERIVED. GIVEN WITH THE SEED: THE CARDS: each row of YtdplmibomopkcaaGreatDoorRows.lean that lists a variable, with what it lists TIED to the program's text (the seventh form; the later family's looks); each row that meets fmt, with fmt's text TOLD by the authors' own Lean function (tested against real Go, not proved from fmt's source: count such statements apart). THE CARD IS WHAT COUNTS. Prove the row's statement (the work); the ties are given (YtdplmibomopkcaaGreatDoorTie.lean); close each card by the builder's one call (the guide's Derived/Test/ToyasCard.lean, 'card_holds'). Laid BY PROGRAM, IN A SANDBOX (cutbox-door.mjs). By AI agents, Wed Nov 11 2026. No macro, syntax, notation, axiom, sorry.
-/
import Derived.Test.YtdplmibomopkcaaGreatDoorRows
import GoSem.ClaimSeven
namespace Go.Proofs.YtdplmibomopkcaaGreatDoor
namespace Rows

/-- THE TIED CARD OF 'laws.FnCallSaid'. -/
def fnCallSaidCard : Claim7 := { stood := { row := fnCallSaidRow, standIns := [], harness := (true, "73c6ef239653d3379cde0931d70e29ea3cde5da64b20047062593bcc6866f053"), looks := false }, kinds := [], alts := [], laidByText := true, laidKinds := [.data, .data, .data], laidTests := true, laidLooks := .later }
def FnCallSaidCardSaid : Prop := Claim7.holds Tryz.pinned (.plain (OpenSpec.ofChange fnCallSaidSpec)) fnCallSaidCard

/-- THE TIED CARD OF 'laws.FnHearNone'. -/
def fnHearNoneCard : Claim7 := { stood := { row := fnHearNoneRow, standIns := [], harness := (true, "73c6ef239653d3379cde0931d70e29ea3cde5da64b20047062593bcc6866f053"), looks := false }, kinds := [], alts := [], laidByText := true, laidKinds := [.data, .data, .data], laidTests := true, laidLooks := .later }
def FnHearNoneCardSaid : Prop := Claim7.holds Tryz.pinned (.plain (OpenSpec.ofChange fnHearNoneSpec)) fnHearNoneCard

/-- THE SECOND FORM's CARD OF 'laws.FnCallSaid'. -/
def fnCallSaidUptoCard : Claim7 := { stood := { row := fnCallSaidUptoRow, standIns := [], harness := (true, "73c6ef239653d3379cde0931d70e29ea3cde5da64b20047062593bcc6866f053"), looks := false }, kinds := [], alts := [], laidByText := true, laidKinds := [.data, .data, .data], laidTests := true, laidLooks := .later }
def FnCallSaidUptoCardSaid : Prop := Claim7.holds Tryz.pinned (.plain (OpenSpec.upto fnCallSaidSpec)) fnCallSaidUptoCard

/-- THE SECOND FORM's CARD OF 'laws.FnHearNone'. -/
def fnHearNoneUptoCard : Claim7 := { stood := { row := fnHearNoneUptoRow, standIns := [], harness := (true, "73c6ef239653d3379cde0931d70e29ea3cde5da64b20047062593bcc6866f053"), looks := false }, kinds := [], alts := [], laidByText := true, laidKinds := [.data, .data, .data], laidTests := true, laidLooks := .later }
def FnHearNoneUptoCardSaid : Prop := Claim7.holds Tryz.pinned (.plain (OpenSpec.upto fnHearNoneSpec)) fnHearNoneUptoCard
end Rows
end Go.Proofs.YtdplmibomopkcaaGreatDoor
