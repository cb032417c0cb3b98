/-
  DERIVED. GIVEN WITH THE SEED: THE CARDS: each row of YtmfamfjfnjckeaaGreatDoorRows.lean that lists a variable, with what it lists TIED to the program's text (the seventh form; the later family's looks); each row that meets fmt, with fmt's text TOLD by the authors' own Lean function (tested against real Go, not proved from fmt's source: count such statements apart). THE CARD IS WHAT COUNTS. Prove the row's statement (the work); the ties are given (YtmfamfjfnjckeaaGreatDoorTie.lean); close each card by the builder's one call (the guide's Derived/Test/ToyasCard.lean, 'card_holds'). Laid BY PROGRAM, IN A SANDBOX (cutbox-door.mjs). By AI agents, Wed Nov 11 2026. No macro, syntax, notation, axiom, sorry.
-/
import Derived.Test.YtmfamfjfnjckeaaGreatDoorRows
import GoSem.ClaimSeven
namespace Go.Proofs.YtmfamfjfnjckeaaGreatDoor
namespace Rows

/-- THE TIED CARD OF 'laws.FnWorldQuiet'. -/
def fnWorldQuietCard : Claim7 := { stood := { row := fnWorldQuietRow, standIns := [], harness := (true, "57de2324ac24509d51f5b7e56224993aa656e953cd523fa4a99763b4ee6ea9bd"), looks := false }, kinds := [], alts := [], laidByText := true, laidKinds := [.data, .data, .data], laidTests := true, laidLooks := .later }
def FnWorldQuietCardSaid : Prop := Claim7.holds Tryz.pinned (.plain (OpenSpec.ofChange fnWorldQuietSpec)) fnWorldQuietCard

/-- THE TIED CARD OF 'laws.FnWorldCut'. -/
def fnWorldCutCard : Claim7 := { stood := { row := fnWorldCutRow, standIns := [], harness := (true, "57de2324ac24509d51f5b7e56224993aa656e953cd523fa4a99763b4ee6ea9bd"), looks := false }, kinds := [], alts := [], laidByText := true, laidKinds := [.data, .data, .data], laidTests := true, laidLooks := .later }
def FnWorldCutCardSaid : Prop := Claim7.holds Tryz.pinned (.plain (OpenSpec.ofChange fnWorldCutSpec)) fnWorldCutCard

/-- THE TIED CARD OF 'laws.FnWorldAsked'. -/
def fnWorldAskedCard : Claim7 := { stood := { row := fnWorldAskedRow, standIns := [], harness := (true, "57de2324ac24509d51f5b7e56224993aa656e953cd523fa4a99763b4ee6ea9bd"), looks := false }, kinds := [], alts := [], laidByText := true, laidKinds := [.data, .data, .data], laidTests := true, laidLooks := .later }
def FnWorldAskedCardSaid : Prop := Claim7.holds Tryz.pinned (.plain (OpenSpec.ofChange fnWorldAskedSpec)) fnWorldAskedCard

/-- THE TIED CARD OF 'laws.FnWorldBytes'. -/
def fnWorldBytesCard : Claim7 := { stood := { row := fnWorldBytesRow, standIns := [], harness := (true, "57de2324ac24509d51f5b7e56224993aa656e953cd523fa4a99763b4ee6ea9bd"), looks := false }, kinds := [], alts := [], laidByText := true, laidKinds := [.data, .data, .data], laidTests := true, laidLooks := .later }
def FnWorldBytesCardSaid : Prop := Claim7.holds Tryz.pinned (.plain (OpenSpec.ofChange fnWorldBytesSpec)) fnWorldBytesCard

/-- THE TIED CARD OF 'laws.FnWorldOnce'. -/
def fnWorldOnceCard : Claim7 := { stood := { row := fnWorldOnceRow, standIns := [], harness := (true, "57de2324ac24509d51f5b7e56224993aa656e953cd523fa4a99763b4ee6ea9bd"), looks := false }, kinds := [], alts := [], laidByText := true, laidKinds := [.data, .data, .data], laidTests := true, laidLooks := .later }
def FnWorldOnceCardSaid : Prop := Claim7.holds Tryz.pinned (.plain (OpenSpec.ofChange fnWorldOnceSpec)) fnWorldOnceCard

/-- THE TIED CARD OF 'laws.FnWorldTables'. -/
def fnWorldTablesCard : Claim7 := { stood := { row := fnWorldTablesRow, standIns := [], harness := (true, "57de2324ac24509d51f5b7e56224993aa656e953cd523fa4a99763b4ee6ea9bd"), looks := false }, kinds := [], alts := [], laidByText := true, laidKinds := [.data, .data, .data], laidTests := true, laidLooks := .later }
def FnWorldTablesCardSaid : Prop := Claim7.holds Tryz.pinned (.plain (OpenSpec.ofChange fnWorldTablesSpec)) fnWorldTablesCard

/-- THE SECOND FORM's CARD OF 'laws.FnWorldQuiet'. -/
def fnWorldQuietUptoCard : Claim7 := { stood := { row := fnWorldQuietUptoRow, standIns := [], harness := (true, "57de2324ac24509d51f5b7e56224993aa656e953cd523fa4a99763b4ee6ea9bd"), looks := false }, kinds := [], alts := [], laidByText := true, laidKinds := [.data, .data, .data], laidTests := true, laidLooks := .later }
def FnWorldQuietUptoCardSaid : Prop := Claim7.holds Tryz.pinned (.plain (OpenSpec.upto fnWorldQuietSpec)) fnWorldQuietUptoCard

/-- THE SECOND FORM's CARD OF 'laws.FnWorldCut'. -/
def fnWorldCutUptoCard : Claim7 := { stood := { row := fnWorldCutUptoRow, standIns := [], harness := (true, "57de2324ac24509d51f5b7e56224993aa656e953cd523fa4a99763b4ee6ea9bd"), looks := false }, kinds := [], alts := [], laidByText := true, laidKinds := [.data, .data, .data], laidTests := true, laidLooks := .later }
def FnWorldCutUptoCardSaid : Prop := Claim7.holds Tryz.pinned (.plain (OpenSpec.upto fnWorldCutSpec)) fnWorldCutUptoCard

/-- THE SECOND FORM's CARD OF 'laws.FnWorldAsked'. -/
def fnWorldAskedUptoCard : Claim7 := { stood := { row := fnWorldAskedUptoRow, standIns := [], harness := (true, "57de2324ac24509d51f5b7e56224993aa656e953cd523fa4a99763b4ee6ea9bd"), looks := false }, kinds := [], alts := [], laidByText := true, laidKinds := [.data, .data, .data], laidTests := true, laidLooks := .later }
def FnWorldAskedUptoCardSaid : Prop := Claim7.holds Tryz.pinned (.plain (OpenSpec.upto fnWorldAskedSpec)) fnWorldAskedUptoCard

/-- THE SECOND FORM's CARD OF 'laws.FnWorldBytes'. -/
def fnWorldBytesUptoCard : Claim7 := { stood := { row := fnWorldBytesUptoRow, standIns := [], harness := (true, "57de2324ac24509d51f5b7e56224993aa656e953cd523fa4a99763b4ee6ea9bd"), looks := false }, kinds := [], alts := [], laidByText := true, laidKinds := [.data, .data, .data], laidTests := true, laidLooks := .later }
def FnWorldBytesUptoCardSaid : Prop := Claim7.holds Tryz.pinned (.plain (OpenSpec.upto fnWorldBytesSpec)) fnWorldBytesUptoCard

/-- THE SECOND FORM's CARD OF 'laws.FnWorldOnce'. -/
def fnWorldOnceUptoCard : Claim7 := { stood := { row := fnWorldOnceUptoRow, standIns := [], harness := (true, "57de2324ac24509d51f5b7e56224993aa656e953cd523fa4a99763b4ee6ea9bd"), looks := false }, kinds := [], alts := [], laidByText := true, laidKinds := [.data, .data, .data], laidTests := true, laidLooks := .later }
def FnWorldOnceUptoCardSaid : Prop := Claim7.holds Tryz.pinned (.plain (OpenSpec.upto fnWorldOnceSpec)) fnWorldOnceUptoCard

/-- THE SECOND FORM's CARD OF 'laws.FnWorldTables'. -/
def fnWorldTablesUptoCard : Claim7 := { stood := { row := fnWorldTablesUptoRow, standIns := [], harness := (true, "57de2324ac24509d51f5b7e56224993aa656e953cd523fa4a99763b4ee6ea9bd"), looks := false }, kinds := [], alts := [], laidByText := true, laidKinds := [.data, .data, .data], laidTests := true, laidLooks := .later }
def FnWorldTablesUptoCardSaid : Prop := Claim7.holds Tryz.pinned (.plain (OpenSpec.upto fnWorldTablesSpec)) fnWorldTablesUptoCard
end Rows
end Go.Proofs.YtmfamfjfnjckeaaGreatDoor
