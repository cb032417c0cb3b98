/-
  DERIVED. GIVEN WITH THE SEED: THE CARDS: each row of YtaamlddnpamomaaGreatDoorRows.lean that lists a variable, with what it lists TIED to the program's text (the seventh form; the later family's looks); each row that meets fmt, with fmt's text TOLD by the authors' own Lean function (tested against real Go, not proved from fmt's source: count such statements apart). THE CARD IS WHAT COUNTS. Prove the row's statement (the work); the ties are given (YtaamlddnpamomaaGreatDoorTie.lean); close each card by the builder's one call (the guide's Derived/Test/ToyasCard.lean, 'card_holds'). Laid BY PROGRAM, IN A SANDBOX (cutbox-door.mjs). By AI agents, Wed Nov 11 2026. No macro, syntax, notation, axiom, sorry.
-/
import Derived.Test.YtaamlddnpamomaaGreatDoorRows
import GoSem.ClaimSeven
namespace Go.Proofs.YtaamlddnpamomaaGreatDoor
namespace Rows

/-- THE TIED CARD OF 'laws.FnHearParts'. -/
def fnHearPartsCard : Claim7 := { stood := { row := fnHearPartsRow, standIns := [], harness := (true, "dcbbfd1b9d5ec3068c0ab23feba211cf771c624f7958cf7016d60156f3628186"), looks := false }, kinds := [], alts := [], laidByText := true, laidKinds := [.data, .data, .data], laidTests := true, laidLooks := .later }
def FnHearPartsCardSaid : Prop := Claim7.holds Tryz.pinned (.plain (OpenSpec.ofChange fnHearPartsSpec)) fnHearPartsCard

/-- THE TIED CARD OF 'laws.FnHearRoom'. -/
def fnHearRoomCard : Claim7 := { stood := { row := fnHearRoomRow, standIns := [], harness := (true, "dcbbfd1b9d5ec3068c0ab23feba211cf771c624f7958cf7016d60156f3628186"), looks := false }, kinds := [], alts := [], laidByText := true, laidKinds := [.data, .data, .data], laidTests := true, laidLooks := .later }
def FnHearRoomCardSaid : Prop := Claim7.holds Tryz.pinned (.plain (OpenSpec.ofChange fnHearRoomSpec)) fnHearRoomCard

/-- THE TIED CARD OF 'laws.FnHearMore'. -/
def fnHearMoreCard : Claim7 := { stood := { row := fnHearMoreRow, standIns := [], harness := (true, "dcbbfd1b9d5ec3068c0ab23feba211cf771c624f7958cf7016d60156f3628186"), looks := false }, kinds := [], alts := [], laidByText := true, laidKinds := [.data, .data, .data], laidTests := true, laidLooks := .later }
def FnHearMoreCardSaid : Prop := Claim7.holds Tryz.pinned (.plain (OpenSpec.ofChange fnHearMoreSpec)) fnHearMoreCard

/-- THE TIED CARD OF 'laws.FnHearTwice'. -/
def fnHearTwiceCard : Claim7 := { stood := { row := fnHearTwiceRow, standIns := [], harness := (true, "dcbbfd1b9d5ec3068c0ab23feba211cf771c624f7958cf7016d60156f3628186"), looks := false }, kinds := [], alts := [], laidByText := true, laidKinds := [.data, .data, .data], laidTests := true, laidLooks := .later }
def FnHearTwiceCardSaid : Prop := Claim7.holds Tryz.pinned (.plain (OpenSpec.ofChange fnHearTwiceSpec)) fnHearTwiceCard

/-- THE TIED CARD OF 'laws.FnHearWindow'. -/
def fnHearWindowCard : Claim7 := { stood := { row := fnHearWindowRow, standIns := [], harness := (true, "dcbbfd1b9d5ec3068c0ab23feba211cf771c624f7958cf7016d60156f3628186"), looks := false }, kinds := [], alts := [], laidByText := true, laidKinds := [.data, .data, .data], laidTests := true, laidLooks := .later }
def FnHearWindowCardSaid : Prop := Claim7.holds Tryz.pinned (.plain (OpenSpec.ofChange fnHearWindowSpec)) fnHearWindowCard

/-- THE TIED CARD OF 'laws.FnHearCall'. -/
def fnHearCallCard : Claim7 := { stood := { row := fnHearCallRow, standIns := [], harness := (true, "dcbbfd1b9d5ec3068c0ab23feba211cf771c624f7958cf7016d60156f3628186"), looks := false }, kinds := [], alts := [], laidByText := true, laidKinds := [.data, .data, .data], laidTests := true, laidLooks := .later }
def FnHearCallCardSaid : Prop := Claim7.holds Tryz.pinned (.plain (OpenSpec.ofChange fnHearCallSpec)) fnHearCallCard

/-- THE TIED CARD OF 'laws.FnHearReset'. -/
def fnHearResetCard : Claim7 := { stood := { row := fnHearResetRow, standIns := [], harness := (true, "dcbbfd1b9d5ec3068c0ab23feba211cf771c624f7958cf7016d60156f3628186"), looks := false }, kinds := [], alts := [], laidByText := true, laidKinds := [.data, .data, .data], laidTests := true, laidLooks := .later }
def FnHearResetCardSaid : Prop := Claim7.holds Tryz.pinned (.plain (OpenSpec.ofChange fnHearResetSpec)) fnHearResetCard

/-- THE TIED CARD OF 'laws.FnWorldLeft'. -/
def fnWorldLeftCard : Claim7 := { stood := { row := fnWorldLeftRow, standIns := [], harness := (true, "dcbbfd1b9d5ec3068c0ab23feba211cf771c624f7958cf7016d60156f3628186"), looks := false }, kinds := [], alts := [], laidByText := true, laidKinds := [.data, .data, .data], laidTests := true, laidLooks := .later }
def FnWorldLeftCardSaid : Prop := Claim7.holds Tryz.pinned (.plain (OpenSpec.ofChange fnWorldLeftSpec)) fnWorldLeftCard

/-- THE SECOND FORM's CARD OF 'laws.FnHearParts'. -/
def fnHearPartsUptoCard : Claim7 := { stood := { row := fnHearPartsUptoRow, standIns := [], harness := (true, "dcbbfd1b9d5ec3068c0ab23feba211cf771c624f7958cf7016d60156f3628186"), looks := false }, kinds := [], alts := [], laidByText := true, laidKinds := [.data, .data, .data], laidTests := true, laidLooks := .later }
def FnHearPartsUptoCardSaid : Prop := Claim7.holds Tryz.pinned (.plain (OpenSpec.upto fnHearPartsSpec)) fnHearPartsUptoCard

/-- THE SECOND FORM's CARD OF 'laws.FnHearRoom'. -/
def fnHearRoomUptoCard : Claim7 := { stood := { row := fnHearRoomUptoRow, standIns := [], harness := (true, "dcbbfd1b9d5ec3068c0ab23feba211cf771c624f7958cf7016d60156f3628186"), looks := false }, kinds := [], alts := [], laidByText := true, laidKinds := [.data, .data, .data], laidTests := true, laidLooks := .later }
def FnHearRoomUptoCardSaid : Prop := Claim7.holds Tryz.pinned (.plain (OpenSpec.upto fnHearRoomSpec)) fnHearRoomUptoCard

/-- THE SECOND FORM's CARD OF 'laws.FnHearMore'. -/
def fnHearMoreUptoCard : Claim7 := { stood := { row := fnHearMoreUptoRow, standIns := [], harness := (true, "dcbbfd1b9d5ec3068c0ab23feba211cf771c624f7958cf7016d60156f3628186"), looks := false }, kinds := [], alts := [], laidByText := true, laidKinds := [.data, .data, .data], laidTests := true, laidLooks := .later }
def FnHearMoreUptoCardSaid : Prop := Claim7.holds Tryz.pinned (.plain (OpenSpec.upto fnHearMoreSpec)) fnHearMoreUptoCard

/-- THE SECOND FORM's CARD OF 'laws.FnHearTwice'. -/
def fnHearTwiceUptoCard : Claim7 := { stood := { row := fnHearTwiceUptoRow, standIns := [], harness := (true, "dcbbfd1b9d5ec3068c0ab23feba211cf771c624f7958cf7016d60156f3628186"), looks := false }, kinds := [], alts := [], laidByText := true, laidKinds := [.data, .data, .data], laidTests := true, laidLooks := .later }
def FnHearTwiceUptoCardSaid : Prop := Claim7.holds Tryz.pinned (.plain (OpenSpec.upto fnHearTwiceSpec)) fnHearTwiceUptoCard

/-- THE SECOND FORM's CARD OF 'laws.FnHearWindow'. -/
def fnHearWindowUptoCard : Claim7 := { stood := { row := fnHearWindowUptoRow, standIns := [], harness := (true, "dcbbfd1b9d5ec3068c0ab23feba211cf771c624f7958cf7016d60156f3628186"), looks := false }, kinds := [], alts := [], laidByText := true, laidKinds := [.data, .data, .data], laidTests := true, laidLooks := .later }
def FnHearWindowUptoCardSaid : Prop := Claim7.holds Tryz.pinned (.plain (OpenSpec.upto fnHearWindowSpec)) fnHearWindowUptoCard

/-- THE SECOND FORM's CARD OF 'laws.FnHearCall'. -/
def fnHearCallUptoCard : Claim7 := { stood := { row := fnHearCallUptoRow, standIns := [], harness := (true, "dcbbfd1b9d5ec3068c0ab23feba211cf771c624f7958cf7016d60156f3628186"), looks := false }, kinds := [], alts := [], laidByText := true, laidKinds := [.data, .data, .data], laidTests := true, laidLooks := .later }
def FnHearCallUptoCardSaid : Prop := Claim7.holds Tryz.pinned (.plain (OpenSpec.upto fnHearCallSpec)) fnHearCallUptoCard

/-- THE SECOND FORM's CARD OF 'laws.FnHearReset'. -/
def fnHearResetUptoCard : Claim7 := { stood := { row := fnHearResetUptoRow, standIns := [], harness := (true, "dcbbfd1b9d5ec3068c0ab23feba211cf771c624f7958cf7016d60156f3628186"), looks := false }, kinds := [], alts := [], laidByText := true, laidKinds := [.data, .data, .data], laidTests := true, laidLooks := .later }
def FnHearResetUptoCardSaid : Prop := Claim7.holds Tryz.pinned (.plain (OpenSpec.upto fnHearResetSpec)) fnHearResetUptoCard

/-- THE SECOND FORM's CARD OF 'laws.FnWorldLeft'. -/
def fnWorldLeftUptoCard : Claim7 := { stood := { row := fnWorldLeftUptoRow, standIns := [], harness := (true, "dcbbfd1b9d5ec3068c0ab23feba211cf771c624f7958cf7016d60156f3628186"), looks := false }, kinds := [], alts := [], laidByText := true, laidKinds := [.data, .data, .data], laidTests := true, laidLooks := .later }
def FnWorldLeftUptoCardSaid : Prop := Claim7.holds Tryz.pinned (.plain (OpenSpec.upto fnWorldLeftSpec)) fnWorldLeftUptoCard
end Rows
end Go.Proofs.YtaamlddnpamomaaGreatDoor
