/-
  DERIVED. GIVEN WITH THE SEED: THE CARDS: each row of YtldogccmhncnoaaGreatDoorRows.lean that lists a variable, with what it lists TIED to the program's text (the seventh form; the later family's looks); each row that meets fmt, with fmt's text TOLD by the authors' own Lean function (tested against real Go, not proved from fmt's source: count such statements apart). THE CARD IS WHAT COUNTS. Prove the row's statement (the work); the ties are given (YtldogccmhncnoaaGreatDoorTie.lean); close each card by the builder's one call (the guide's Derived/Test/ToyasCard.lean, 'card_holds'). Laid BY PROGRAM, IN A SANDBOX (cutbox-door.mjs). By AI agents, Wed Nov 11 2026. No macro, syntax, notation, axiom, sorry.
-/
import Derived.Test.YtldogccmhncnoaaGreatDoorRows
import GoSem.ClaimSeven
namespace Go.Proofs.YtldogccmhncnoaaGreatDoor
namespace Rows

/-- THE TIED CARD OF 'laws.FnExactEndHear'. -/
def fnExactEndHearCard : Claim7 := { stood := { row := fnExactEndHearRow, standIns := [], harness := (true, "abd2734b36610a77730e0751107696f344d651b89236be46805348801514c845"), looks := false }, kinds := [], alts := [], laidByText := true, laidKinds := [.data, .data, .data], laidTests := true, laidLooks := .later }
def FnExactEndHearCardSaid : Prop := Claim7.holds Tryz.pinned (.plain (OpenSpec.ofChange fnExactEndHearSpec)) fnExactEndHearCard

/-- THE TIED CARD OF 'laws.FnExactWorldDo'. -/
def fnExactWorldDoCard : Claim7 := { stood := { row := fnExactWorldDoRow, standIns := [], harness := (true, "abd2734b36610a77730e0751107696f344d651b89236be46805348801514c845"), looks := false }, kinds := [], alts := [], laidByText := true, laidKinds := [.data, .data, .data], laidTests := true, laidLooks := .later }
def FnExactWorldDoCardSaid : Prop := Claim7.holds Tryz.pinned (.plain (OpenSpec.ofChange fnExactWorldDoSpec)) fnExactWorldDoCard

/-- THE TIED CARD OF 'laws.FnExactWorldCalm'. -/
def fnExactWorldCalmCard : Claim7 := { stood := { row := fnExactWorldCalmRow, standIns := [], harness := (true, "abd2734b36610a77730e0751107696f344d651b89236be46805348801514c845"), looks := false }, kinds := [], alts := [], laidByText := true, laidKinds := [.data, .data, .data], laidTests := true, laidLooks := .later }
def FnExactWorldCalmCardSaid : Prop := Claim7.holds Tryz.pinned (.plain (OpenSpec.ofChange fnExactWorldCalmSpec)) fnExactWorldCalmCard

/-- THE TIED CARD OF 'laws.FnExactWorldPlay'. -/
def fnExactWorldPlayCard : Claim7 := { stood := { row := fnExactWorldPlayRow, standIns := [], harness := (true, "abd2734b36610a77730e0751107696f344d651b89236be46805348801514c845"), looks := false }, kinds := [], alts := [], laidByText := true, laidKinds := [.data, .data, .data], laidTests := true, laidLooks := .later }
def FnExactWorldPlayCardSaid : Prop := Claim7.holds Tryz.pinned (.plain (OpenSpec.ofChange fnExactWorldPlaySpec)) fnExactWorldPlayCard

/-- THE SECOND FORM's CARD OF 'laws.FnExactEndHear'. -/
def fnExactEndHearUptoCard : Claim7 := { stood := { row := fnExactEndHearUptoRow, standIns := [], harness := (true, "abd2734b36610a77730e0751107696f344d651b89236be46805348801514c845"), looks := false }, kinds := [], alts := [], laidByText := true, laidKinds := [.data, .data, .data], laidTests := true, laidLooks := .later }
def FnExactEndHearUptoCardSaid : Prop := Claim7.holds Tryz.pinned (.plain (OpenSpec.upto fnExactEndHearSpec)) fnExactEndHearUptoCard

/-- THE SECOND FORM's CARD OF 'laws.FnExactWorldDo'. -/
def fnExactWorldDoUptoCard : Claim7 := { stood := { row := fnExactWorldDoUptoRow, standIns := [], harness := (true, "abd2734b36610a77730e0751107696f344d651b89236be46805348801514c845"), looks := false }, kinds := [], alts := [], laidByText := true, laidKinds := [.data, .data, .data], laidTests := true, laidLooks := .later }
def FnExactWorldDoUptoCardSaid : Prop := Claim7.holds Tryz.pinned (.plain (OpenSpec.upto fnExactWorldDoSpec)) fnExactWorldDoUptoCard

/-- THE SECOND FORM's CARD OF 'laws.FnExactWorldCalm'. -/
def fnExactWorldCalmUptoCard : Claim7 := { stood := { row := fnExactWorldCalmUptoRow, standIns := [], harness := (true, "abd2734b36610a77730e0751107696f344d651b89236be46805348801514c845"), looks := false }, kinds := [], alts := [], laidByText := true, laidKinds := [.data, .data, .data], laidTests := true, laidLooks := .later }
def FnExactWorldCalmUptoCardSaid : Prop := Claim7.holds Tryz.pinned (.plain (OpenSpec.upto fnExactWorldCalmSpec)) fnExactWorldCalmUptoCard

/-- THE SECOND FORM's CARD OF 'laws.FnExactWorldPlay'. -/
def fnExactWorldPlayUptoCard : Claim7 := { stood := { row := fnExactWorldPlayUptoRow, standIns := [], harness := (true, "abd2734b36610a77730e0751107696f344d651b89236be46805348801514c845"), looks := false }, kinds := [], alts := [], laidByText := true, laidKinds := [.data, .data, .data], laidTests := true, laidLooks := .later }
def FnExactWorldPlayUptoCardSaid : Prop := Claim7.holds Tryz.pinned (.plain (OpenSpec.upto fnExactWorldPlaySpec)) fnExactWorldPlayUptoCard
end Rows
end Go.Proofs.YtldogccmhncnoaaGreatDoor
