/-
  DERIVED. GIVEN WITH THE SEED: THE CARDS: each row of YtnhifbfbnofkcaaGreatDoorRows.lean that lists a variable, with what it lists TIED to the program's text (the seventh form; the later family's looks); each row that meets fmt, with fmt's text TOLD by the authors' own Lean function (tested against real Go, not proved from fmt's source: count such statements apart). THE CARD IS WHAT COUNTS. Prove the row's statement (the work); the ties are given (YtnhifbfbnofkcaaGreatDoorTie.lean); close each card by the builder's one call (the guide's Derived/Test/ToyasCard.lean, 'card_holds'). Laid BY PROGRAM, IN A SANDBOX (cutbox-door.mjs). By AI agents, Wed Nov 11 2026. No macro, syntax, notation, axiom, sorry.
-/
import Derived.Test.YtnhifbfbnofkcaaGreatDoorRows
import GoSem.ClaimSeven
namespace Go.Proofs.YtnhifbfbnofkcaaGreatDoor
namespace Rows

/-- THE TIED CARD OF 'laws.FnWorldIds'. -/
def fnWorldIdsCard : Claim7 := { stood := { row := fnWorldIdsRow, standIns := [], harness := (true, "725b802e78f9c555bbde205875e3a20fcc7d988974952f25bdb0bfad40cc4010"), looks := false }, kinds := [], alts := [], laidByText := true, laidKinds := [.data, .data, .data], laidTests := true, laidLooks := .later }
def FnWorldIdsCardSaid : Prop := Claim7.holds Tryz.pinned (.plain (OpenSpec.ofChange fnWorldIdsSpec)) fnWorldIdsCard

/-- THE TIED CARD OF 'laws.FnWorldStill'. -/
def fnWorldStillCard : Claim7 := { stood := { row := fnWorldStillRow, standIns := [], harness := (true, "725b802e78f9c555bbde205875e3a20fcc7d988974952f25bdb0bfad40cc4010"), looks := false }, kinds := [], alts := [], laidByText := true, laidKinds := [.data, .data, .data], laidTests := true, laidLooks := .later }
def FnWorldStillCardSaid : Prop := Claim7.holds Tryz.pinned (.plain (OpenSpec.ofChange fnWorldStillSpec)) fnWorldStillCard

/-- THE TIED CARD OF 'laws.FnWorldAlways'. -/
def fnWorldAlwaysCard : Claim7 := { stood := { row := fnWorldAlwaysRow, standIns := [], harness := (true, "725b802e78f9c555bbde205875e3a20fcc7d988974952f25bdb0bfad40cc4010"), looks := false }, kinds := [], alts := [], laidByText := true, laidKinds := [.data, .data, .data], laidTests := true, laidLooks := .later }
def FnWorldAlwaysCardSaid : Prop := Claim7.holds Tryz.pinned (.plain (OpenSpec.ofChange fnWorldAlwaysSpec)) fnWorldAlwaysCard

/-- THE TIED CARD OF 'laws.FnWorldTrue'. -/
def fnWorldTrueCard : Claim7 := { stood := { row := fnWorldTrueRow, standIns := [], harness := (true, "725b802e78f9c555bbde205875e3a20fcc7d988974952f25bdb0bfad40cc4010"), looks := false }, kinds := [], alts := [], laidByText := true, laidKinds := [.data, .data, .data], laidTests := true, laidLooks := .later }
def FnWorldTrueCardSaid : Prop := Claim7.holds Tryz.pinned (.plain (OpenSpec.ofChange fnWorldTrueSpec)) fnWorldTrueCard

/-- THE SECOND FORM's CARD OF 'laws.FnWorldIds'. -/
def fnWorldIdsUptoCard : Claim7 := { stood := { row := fnWorldIdsUptoRow, standIns := [], harness := (true, "725b802e78f9c555bbde205875e3a20fcc7d988974952f25bdb0bfad40cc4010"), looks := false }, kinds := [], alts := [], laidByText := true, laidKinds := [.data, .data, .data], laidTests := true, laidLooks := .later }
def FnWorldIdsUptoCardSaid : Prop := Claim7.holds Tryz.pinned (.plain (OpenSpec.upto fnWorldIdsSpec)) fnWorldIdsUptoCard

/-- THE SECOND FORM's CARD OF 'laws.FnWorldStill'. -/
def fnWorldStillUptoCard : Claim7 := { stood := { row := fnWorldStillUptoRow, standIns := [], harness := (true, "725b802e78f9c555bbde205875e3a20fcc7d988974952f25bdb0bfad40cc4010"), looks := false }, kinds := [], alts := [], laidByText := true, laidKinds := [.data, .data, .data], laidTests := true, laidLooks := .later }
def FnWorldStillUptoCardSaid : Prop := Claim7.holds Tryz.pinned (.plain (OpenSpec.upto fnWorldStillSpec)) fnWorldStillUptoCard

/-- THE SECOND FORM's CARD OF 'laws.FnWorldAlways'. -/
def fnWorldAlwaysUptoCard : Claim7 := { stood := { row := fnWorldAlwaysUptoRow, standIns := [], harness := (true, "725b802e78f9c555bbde205875e3a20fcc7d988974952f25bdb0bfad40cc4010"), looks := false }, kinds := [], alts := [], laidByText := true, laidKinds := [.data, .data, .data], laidTests := true, laidLooks := .later }
def FnWorldAlwaysUptoCardSaid : Prop := Claim7.holds Tryz.pinned (.plain (OpenSpec.upto fnWorldAlwaysSpec)) fnWorldAlwaysUptoCard

/-- THE SECOND FORM's CARD OF 'laws.FnWorldTrue'. -/
def fnWorldTrueUptoCard : Claim7 := { stood := { row := fnWorldTrueUptoRow, standIns := [], harness := (true, "725b802e78f9c555bbde205875e3a20fcc7d988974952f25bdb0bfad40cc4010"), looks := false }, kinds := [], alts := [], laidByText := true, laidKinds := [.data, .data, .data], laidTests := true, laidLooks := .later }
def FnWorldTrueUptoCardSaid : Prop := Claim7.holds Tryz.pinned (.plain (OpenSpec.upto fnWorldTrueSpec)) fnWorldTrueUptoCard
end Rows
end Go.Proofs.YtnhifbfbnofkcaaGreatDoor
