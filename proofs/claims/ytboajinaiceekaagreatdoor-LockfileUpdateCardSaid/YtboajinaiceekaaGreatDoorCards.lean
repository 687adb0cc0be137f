/-
  DERIVED. GIVEN WITH THE SEED: THE CARDS: each row of YtboajinaiceekaaGreatDoorRows.lean that lists a variable, with what it lists TIED to the program's text (the seventh form; the later family's looks); each row that meets fmt, with fmt's text TOLD by the authors' own Lean function (tested against real Go, not proved from fmt's source: count such statements apart). THE CARD IS WHAT COUNTS. Prove the row's statement (the work); the ties are given (YtboajinaiceekaaGreatDoorTie.lean); close each card by the builder's one call (the guide's Derived/Test/ToyasCard.lean, 'card_holds'). Laid BY PROGRAM, IN A SANDBOX (cutbox-door.mjs). By AI agents, Wed Nov 11 2026. No macro, syntax, notation, axiom, sorry.
-/
import Derived.Test.YtboajinaiceekaaGreatDoorRows
import GoSem.ClaimSeven
namespace Go.Proofs.YtboajinaiceekaaGreatDoor
namespace Rows

/-- THE TIED CARD OF 'pandectlaw37.LockfileShows'. -/
def lockfileShowsCard : Claim7 := { stood := { row := lockfileShowsRow, standIns := [], harness := (true, "58ae25f9c6ee8763590d64ca4859a2200fcca4fdadb14a394ceb2bac8b2ca773"), looks := true }, kinds := [], alts := [], laidByText := true, laidKinds := [.data, .data, .data, .data, .sentinel, .sentinel, .pinned], laidTests := true, laidLooks := .later }
def LockfileShowsCardSaid : Prop := Claim7.holds Tryz.pinned (.plain (OpenSpec.ofChange lockfileShowsSpec)) lockfileShowsCard

/-- THE TIED CARD OF 'pandectlaw37.LockfileParses'. -/
def lockfileParsesCard : Claim7 := { stood := { row := lockfileParsesRow, standIns := [], harness := (true, "58ae25f9c6ee8763590d64ca4859a2200fcca4fdadb14a394ceb2bac8b2ca773"), looks := true }, kinds := [], alts := [], laidByText := true, laidKinds := [.data, .data, .data, .data, .sentinel, .sentinel, .pinned], laidTests := true, laidLooks := .later }
def LockfileParsesCardSaid : Prop := Claim7.holds Tryz.pinned (.plain (OpenSpec.ofChange lockfileParsesSpec)) lockfileParsesCard

/-- THE TIED CARD OF 'pandectlaw37.LockfileUpdates'. -/
def lockfileUpdatesCard : Claim7 := { stood := { row := lockfileUpdatesRow, standIns := [], harness := (true, "58ae25f9c6ee8763590d64ca4859a2200fcca4fdadb14a394ceb2bac8b2ca773"), looks := true }, kinds := [], alts := [], laidByText := true, laidKinds := [.data, .data, .data, .data, .sentinel, .sentinel, .pinned], laidTests := true, laidLooks := .later }
def LockfileUpdatesCardSaid : Prop := Claim7.holds Tryz.pinned (.plain (OpenSpec.ofChange lockfileUpdatesSpec)) lockfileUpdatesCard

/-- THE TIED CARD OF 'pandectlaw37.LockfileBack'. -/
def lockfileBackCard : Claim7 := { stood := { row := lockfileBackRow, standIns := [], harness := (true, "58ae25f9c6ee8763590d64ca4859a2200fcca4fdadb14a394ceb2bac8b2ca773"), looks := true }, kinds := [], alts := [], laidByText := true, laidKinds := [.data, .data, .data, .data, .sentinel, .sentinel, .pinned], laidTests := true, laidLooks := .later }
def LockfileBackCardSaid : Prop := Claim7.holds Tryz.pinned (.plain (OpenSpec.ofChange lockfileBackSpec)) lockfileBackCard

/-- THE TIED CARD OF 'pandectlaw37.LockfileTurned'. -/
def lockfileTurnedCard : Claim7 := { stood := { row := lockfileTurnedRow, standIns := [], harness := (true, "58ae25f9c6ee8763590d64ca4859a2200fcca4fdadb14a394ceb2bac8b2ca773"), looks := true }, kinds := [], alts := [], laidByText := true, laidKinds := [.data, .data, .data, .data, .sentinel, .sentinel, .pinned], laidTests := true, laidLooks := .later }
def LockfileTurnedCardSaid : Prop := Claim7.holds Tryz.pinned (.plain (OpenSpec.ofChange lockfileTurnedSpec)) lockfileTurnedCard

/-- THE TIED CARD OF 'pandectlaw37.LockfileUpdate'. -/
def lockfileUpdateCard : Claim7 := { stood := { row := lockfileUpdateRow, standIns := [], harness := (true, "58ae25f9c6ee8763590d64ca4859a2200fcca4fdadb14a394ceb2bac8b2ca773"), looks := true }, kinds := [], alts := [], laidByText := true, laidKinds := [.data, .data, .data, .data, .sentinel, .sentinel, .pinned], laidTests := true, laidLooks := .later }
def LockfileUpdateCardSaid : Prop := Claim7.holds Tryz.pinned (.plain (OpenSpec.ofChange lockfileUpdateSpec)) lockfileUpdateCard

/-- THE SECOND FORM's CARD OF 'pandectlaw37.LockfileShows'. -/
def lockfileShowsUptoCard : Claim7 := { stood := { row := lockfileShowsUptoRow, standIns := [], harness := (true, "58ae25f9c6ee8763590d64ca4859a2200fcca4fdadb14a394ceb2bac8b2ca773"), looks := true }, kinds := [], alts := [], laidByText := true, laidKinds := [.data, .data, .data, .data, .sentinel, .sentinel, .pinned], laidTests := true, laidLooks := .later }
def LockfileShowsUptoCardSaid : Prop := Claim7.holds Tryz.pinned (.plain (OpenSpec.upto lockfileShowsSpec)) lockfileShowsUptoCard

/-- THE SECOND FORM's CARD OF 'pandectlaw37.LockfileParses'. -/
def lockfileParsesUptoCard : Claim7 := { stood := { row := lockfileParsesUptoRow, standIns := [], harness := (true, "58ae25f9c6ee8763590d64ca4859a2200fcca4fdadb14a394ceb2bac8b2ca773"), looks := true }, kinds := [], alts := [], laidByText := true, laidKinds := [.data, .data, .data, .data, .sentinel, .sentinel, .pinned], laidTests := true, laidLooks := .later }
def LockfileParsesUptoCardSaid : Prop := Claim7.holds Tryz.pinned (.plain (OpenSpec.upto lockfileParsesSpec)) lockfileParsesUptoCard

/-- THE SECOND FORM's CARD OF 'pandectlaw37.LockfileUpdates'. -/
def lockfileUpdatesUptoCard : Claim7 := { stood := { row := lockfileUpdatesUptoRow, standIns := [], harness := (true, "58ae25f9c6ee8763590d64ca4859a2200fcca4fdadb14a394ceb2bac8b2ca773"), looks := true }, kinds := [], alts := [], laidByText := true, laidKinds := [.data, .data, .data, .data, .sentinel, .sentinel, .pinned], laidTests := true, laidLooks := .later }
def LockfileUpdatesUptoCardSaid : Prop := Claim7.holds Tryz.pinned (.plain (OpenSpec.upto lockfileUpdatesSpec)) lockfileUpdatesUptoCard

/-- THE SECOND FORM's CARD OF 'pandectlaw37.LockfileBack'. -/
def lockfileBackUptoCard : Claim7 := { stood := { row := lockfileBackUptoRow, standIns := [], harness := (true, "58ae25f9c6ee8763590d64ca4859a2200fcca4fdadb14a394ceb2bac8b2ca773"), looks := true }, kinds := [], alts := [], laidByText := true, laidKinds := [.data, .data, .data, .data, .sentinel, .sentinel, .pinned], laidTests := true, laidLooks := .later }
def LockfileBackUptoCardSaid : Prop := Claim7.holds Tryz.pinned (.plain (OpenSpec.upto lockfileBackSpec)) lockfileBackUptoCard

/-- THE SECOND FORM's CARD OF 'pandectlaw37.LockfileTurned'. -/
def lockfileTurnedUptoCard : Claim7 := { stood := { row := lockfileTurnedUptoRow, standIns := [], harness := (true, "58ae25f9c6ee8763590d64ca4859a2200fcca4fdadb14a394ceb2bac8b2ca773"), looks := true }, kinds := [], alts := [], laidByText := true, laidKinds := [.data, .data, .data, .data, .sentinel, .sentinel, .pinned], laidTests := true, laidLooks := .later }
def LockfileTurnedUptoCardSaid : Prop := Claim7.holds Tryz.pinned (.plain (OpenSpec.upto lockfileTurnedSpec)) lockfileTurnedUptoCard

/-- THE SECOND FORM's CARD OF 'pandectlaw37.LockfileUpdate'. -/
def lockfileUpdateUptoCard : Claim7 := { stood := { row := lockfileUpdateUptoRow, standIns := [], harness := (true, "58ae25f9c6ee8763590d64ca4859a2200fcca4fdadb14a394ceb2bac8b2ca773"), looks := true }, kinds := [], alts := [], laidByText := true, laidKinds := [.data, .data, .data, .data, .sentinel, .sentinel, .pinned], laidTests := true, laidLooks := .later }
def LockfileUpdateUptoCardSaid : Prop := Claim7.holds Tryz.pinned (.plain (OpenSpec.upto lockfileUpdateSpec)) lockfileUpdateUptoCard
end Rows
end Go.Proofs.YtboajinaiceekaaGreatDoor
