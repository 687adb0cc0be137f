/-
  DERIVED. GIVEN WITH THE SEED: THE CARDS: each row of YtjjpngdbbjeaiaaGreatDoorRows.lean that lists a variable, with what it lists TIED to the program's text (the seventh form; the later family's looks); each row that meets fmt, with fmt's text TOLD by the authors' own Lean function (tested against real Go, not proved from fmt's source: count such statements apart). THE CARD IS WHAT COUNTS. Prove the row's statement (the work); the ties are given (YtjjpngdbbjeaiaaGreatDoorTie.lean); close each card by the builder's one call (the guide's Derived/Test/ToyasCard.lean, 'card_holds'). Laid BY PROGRAM, IN A SANDBOX (cutbox-door.mjs). By AI agents, Wed Nov 11 2026. No macro, syntax, notation, axiom, sorry.
-/
import Derived.Test.YtjjpngdbbjeaiaaGreatDoorRows
import GoSem.ClaimSeven
namespace Go.Proofs.YtjjpngdbbjeaiaaGreatDoor
namespace Rows

/-- THE TIED CARD OF 'pandectlaw22.RecordReleases'. -/
def recordReleasesCard : Claim7 := { stood := { row := recordReleasesRow, standIns := [], harness := (true, "4c6cfc634529148c81c282459d7f4f391a0394be788af4039c7767911d9a30e6"), looks := true }, kinds := [], alts := [], laidByText := true, laidKinds := [.data, .data, .data, .data, .sentinel, .sentinel, .pinned], laidTests := true, laidLooks := .later }
def RecordReleasesCardSaid : Prop := Claim7.holds Tryz.pinned (.plain (OpenSpec.ofChange recordReleasesSpec)) recordReleasesCard

/-- THE TIED CARD OF 'pandectlaw22.RecordReads'. -/
def recordReadsCard : Claim7 := { stood := { row := recordReadsRow, standIns := [], harness := (true, "4c6cfc634529148c81c282459d7f4f391a0394be788af4039c7767911d9a30e6"), looks := true }, kinds := [], alts := [], laidByText := true, laidKinds := [.data, .data, .data, .data, .sentinel, .sentinel, .pinned], laidTests := true, laidLooks := .later }
def RecordReadsCardSaid : Prop := Claim7.holds Tryz.pinned (.plain (OpenSpec.ofChange recordReadsSpec)) recordReadsCard

/-- THE TIED CARD OF 'pandectlaw22.RecordBack'. -/
def recordBackCard : Claim7 := { stood := { row := recordBackRow, standIns := [], harness := (true, "4c6cfc634529148c81c282459d7f4f391a0394be788af4039c7767911d9a30e6"), looks := true }, kinds := [], alts := [], laidByText := true, laidKinds := [.data, .data, .data, .data, .sentinel, .sentinel, .pinned], laidTests := true, laidLooks := .later }
def RecordBackCardSaid : Prop := Claim7.holds Tryz.pinned (.plain (OpenSpec.ofChange recordBackSpec)) recordBackCard

/-- THE TIED CARD OF 'pandectlaw22.RecordKeys'. -/
def recordKeysCard : Claim7 := { stood := { row := recordKeysRow, standIns := [], harness := (true, "4c6cfc634529148c81c282459d7f4f391a0394be788af4039c7767911d9a30e6"), looks := true }, kinds := [], alts := [], laidByText := true, laidKinds := [.data, .data, .data, .data, .sentinel, .sentinel, .pinned], laidTests := true, laidLooks := .later }
def RecordKeysCardSaid : Prop := Claim7.holds Tryz.pinned (.plain (OpenSpec.ofChange recordKeysSpec)) recordKeysCard

/-- THE TIED CARD OF 'pandectlaw22.RecordApart'. -/
def recordApartCard : Claim7 := { stood := { row := recordApartRow, standIns := [], harness := (true, "4c6cfc634529148c81c282459d7f4f391a0394be788af4039c7767911d9a30e6"), looks := true }, kinds := [], alts := [], laidByText := true, laidKinds := [.data, .data, .data, .data, .sentinel, .sentinel, .pinned], laidTests := true, laidLooks := .later }
def RecordApartCardSaid : Prop := Claim7.holds Tryz.pinned (.plain (OpenSpec.ofChange recordApartSpec)) recordApartCard

/-- THE TIED CARD OF 'pandectlaw27.CommandParses'. -/
def commandParsesCard : Claim7 := { stood := { row := commandParsesRow, standIns := [], harness := (true, "4c6cfc634529148c81c282459d7f4f391a0394be788af4039c7767911d9a30e6"), looks := true }, kinds := [], alts := [], laidByText := true, laidKinds := [.data, .data, .data, .data, .sentinel, .sentinel, .pinned], laidTests := true, laidLooks := .later }
def CommandParsesCardSaid : Prop := Claim7.holds Tryz.pinned (.plain (OpenSpec.ofChange commandParsesSpec)) commandParsesCard

/-- THE TIED CARD OF 'pandectlaw27.CommandShows'. -/
def commandShowsCard : Claim7 := { stood := { row := commandShowsRow, standIns := [], harness := (true, "4c6cfc634529148c81c282459d7f4f391a0394be788af4039c7767911d9a30e6"), looks := true }, kinds := [], alts := [], laidByText := true, laidKinds := [.data, .data, .data, .data, .sentinel, .sentinel, .pinned], laidTests := true, laidLooks := .later }
def CommandShowsCardSaid : Prop := Claim7.holds Tryz.pinned (.plain (OpenSpec.ofChange commandShowsSpec)) commandShowsCard

/-- THE TIED CARD OF 'pandectlaw27.CommandAsks'. -/
def commandAsksCard : Claim7 := { stood := { row := commandAsksRow, standIns := [], harness := (true, "4c6cfc634529148c81c282459d7f4f391a0394be788af4039c7767911d9a30e6"), looks := true }, kinds := [], alts := [], laidByText := true, laidKinds := [.data, .data, .data, .data, .sentinel, .sentinel, .pinned], laidTests := true, laidLooks := .later }
def CommandAsksCardSaid : Prop := Claim7.holds Tryz.pinned (.plain (OpenSpec.ofChange commandAsksSpec)) commandAsksCard

/-- THE TIED CARD OF 'pandectlaw27.CommandBack'. -/
def commandBackCard : Claim7 := { stood := { row := commandBackRow, standIns := [], harness := (true, "4c6cfc634529148c81c282459d7f4f391a0394be788af4039c7767911d9a30e6"), looks := true }, kinds := [], alts := [], laidByText := true, laidKinds := [.data, .data, .data, .data, .sentinel, .sentinel, .pinned], laidTests := true, laidLooks := .later }
def CommandBackCardSaid : Prop := Claim7.holds Tryz.pinned (.plain (OpenSpec.ofChange commandBackSpec)) commandBackCard

/-- THE TIED CARD OF 'pandectlaw27.CommandForms'. -/
def commandFormsCard : Claim7 := { stood := { row := commandFormsRow, standIns := [], harness := (true, "4c6cfc634529148c81c282459d7f4f391a0394be788af4039c7767911d9a30e6"), looks := true }, kinds := [], alts := [], laidByText := true, laidKinds := [.data, .data, .data, .data, .sentinel, .sentinel, .pinned], laidTests := true, laidLooks := .later }
def CommandFormsCardSaid : Prop := Claim7.holds Tryz.pinned (.plain (OpenSpec.ofChange commandFormsSpec)) commandFormsCard

/-- THE TIED CARD OF 'pandectlaw27.CommandLines'. -/
def commandLinesCard : Claim7 := { stood := { row := commandLinesRow, standIns := [], harness := (true, "4c6cfc634529148c81c282459d7f4f391a0394be788af4039c7767911d9a30e6"), looks := true }, kinds := [], alts := [], laidByText := true, laidKinds := [.data, .data, .data, .data, .sentinel, .sentinel, .pinned], laidTests := true, laidLooks := .later }
def CommandLinesCardSaid : Prop := Claim7.holds Tryz.pinned (.plain (OpenSpec.ofChange commandLinesSpec)) commandLinesCard

/-- THE SECOND FORM's CARD OF 'pandectlaw22.RecordReleases'. -/
def recordReleasesUptoCard : Claim7 := { stood := { row := recordReleasesUptoRow, standIns := [], harness := (true, "4c6cfc634529148c81c282459d7f4f391a0394be788af4039c7767911d9a30e6"), looks := true }, kinds := [], alts := [], laidByText := true, laidKinds := [.data, .data, .data, .data, .sentinel, .sentinel, .pinned], laidTests := true, laidLooks := .later }
def RecordReleasesUptoCardSaid : Prop := Claim7.holds Tryz.pinned (.plain (OpenSpec.upto recordReleasesSpec)) recordReleasesUptoCard

/-- THE SECOND FORM's CARD OF 'pandectlaw22.RecordReads'. -/
def recordReadsUptoCard : Claim7 := { stood := { row := recordReadsUptoRow, standIns := [], harness := (true, "4c6cfc634529148c81c282459d7f4f391a0394be788af4039c7767911d9a30e6"), looks := true }, kinds := [], alts := [], laidByText := true, laidKinds := [.data, .data, .data, .data, .sentinel, .sentinel, .pinned], laidTests := true, laidLooks := .later }
def RecordReadsUptoCardSaid : Prop := Claim7.holds Tryz.pinned (.plain (OpenSpec.upto recordReadsSpec)) recordReadsUptoCard

/-- THE SECOND FORM's CARD OF 'pandectlaw22.RecordBack'. -/
def recordBackUptoCard : Claim7 := { stood := { row := recordBackUptoRow, standIns := [], harness := (true, "4c6cfc634529148c81c282459d7f4f391a0394be788af4039c7767911d9a30e6"), looks := true }, kinds := [], alts := [], laidByText := true, laidKinds := [.data, .data, .data, .data, .sentinel, .sentinel, .pinned], laidTests := true, laidLooks := .later }
def RecordBackUptoCardSaid : Prop := Claim7.holds Tryz.pinned (.plain (OpenSpec.upto recordBackSpec)) recordBackUptoCard

/-- THE SECOND FORM's CARD OF 'pandectlaw22.RecordKeys'. -/
def recordKeysUptoCard : Claim7 := { stood := { row := recordKeysUptoRow, standIns := [], harness := (true, "4c6cfc634529148c81c282459d7f4f391a0394be788af4039c7767911d9a30e6"), looks := true }, kinds := [], alts := [], laidByText := true, laidKinds := [.data, .data, .data, .data, .sentinel, .sentinel, .pinned], laidTests := true, laidLooks := .later }
def RecordKeysUptoCardSaid : Prop := Claim7.holds Tryz.pinned (.plain (OpenSpec.upto recordKeysSpec)) recordKeysUptoCard

/-- THE SECOND FORM's CARD OF 'pandectlaw22.RecordApart'. -/
def recordApartUptoCard : Claim7 := { stood := { row := recordApartUptoRow, standIns := [], harness := (true, "4c6cfc634529148c81c282459d7f4f391a0394be788af4039c7767911d9a30e6"), looks := true }, kinds := [], alts := [], laidByText := true, laidKinds := [.data, .data, .data, .data, .sentinel, .sentinel, .pinned], laidTests := true, laidLooks := .later }
def RecordApartUptoCardSaid : Prop := Claim7.holds Tryz.pinned (.plain (OpenSpec.upto recordApartSpec)) recordApartUptoCard

/-- THE SECOND FORM's CARD OF 'pandectlaw27.CommandParses'. -/
def commandParsesUptoCard : Claim7 := { stood := { row := commandParsesUptoRow, standIns := [], harness := (true, "4c6cfc634529148c81c282459d7f4f391a0394be788af4039c7767911d9a30e6"), looks := true }, kinds := [], alts := [], laidByText := true, laidKinds := [.data, .data, .data, .data, .sentinel, .sentinel, .pinned], laidTests := true, laidLooks := .later }
def CommandParsesUptoCardSaid : Prop := Claim7.holds Tryz.pinned (.plain (OpenSpec.upto commandParsesSpec)) commandParsesUptoCard

/-- THE SECOND FORM's CARD OF 'pandectlaw27.CommandShows'. -/
def commandShowsUptoCard : Claim7 := { stood := { row := commandShowsUptoRow, standIns := [], harness := (true, "4c6cfc634529148c81c282459d7f4f391a0394be788af4039c7767911d9a30e6"), looks := true }, kinds := [], alts := [], laidByText := true, laidKinds := [.data, .data, .data, .data, .sentinel, .sentinel, .pinned], laidTests := true, laidLooks := .later }
def CommandShowsUptoCardSaid : Prop := Claim7.holds Tryz.pinned (.plain (OpenSpec.upto commandShowsSpec)) commandShowsUptoCard

/-- THE SECOND FORM's CARD OF 'pandectlaw27.CommandAsks'. -/
def commandAsksUptoCard : Claim7 := { stood := { row := commandAsksUptoRow, standIns := [], harness := (true, "4c6cfc634529148c81c282459d7f4f391a0394be788af4039c7767911d9a30e6"), looks := true }, kinds := [], alts := [], laidByText := true, laidKinds := [.data, .data, .data, .data, .sentinel, .sentinel, .pinned], laidTests := true, laidLooks := .later }
def CommandAsksUptoCardSaid : Prop := Claim7.holds Tryz.pinned (.plain (OpenSpec.upto commandAsksSpec)) commandAsksUptoCard

/-- THE SECOND FORM's CARD OF 'pandectlaw27.CommandBack'. -/
def commandBackUptoCard : Claim7 := { stood := { row := commandBackUptoRow, standIns := [], harness := (true, "4c6cfc634529148c81c282459d7f4f391a0394be788af4039c7767911d9a30e6"), looks := true }, kinds := [], alts := [], laidByText := true, laidKinds := [.data, .data, .data, .data, .sentinel, .sentinel, .pinned], laidTests := true, laidLooks := .later }
def CommandBackUptoCardSaid : Prop := Claim7.holds Tryz.pinned (.plain (OpenSpec.upto commandBackSpec)) commandBackUptoCard

/-- THE SECOND FORM's CARD OF 'pandectlaw27.CommandForms'. -/
def commandFormsUptoCard : Claim7 := { stood := { row := commandFormsUptoRow, standIns := [], harness := (true, "4c6cfc634529148c81c282459d7f4f391a0394be788af4039c7767911d9a30e6"), looks := true }, kinds := [], alts := [], laidByText := true, laidKinds := [.data, .data, .data, .data, .sentinel, .sentinel, .pinned], laidTests := true, laidLooks := .later }
def CommandFormsUptoCardSaid : Prop := Claim7.holds Tryz.pinned (.plain (OpenSpec.upto commandFormsSpec)) commandFormsUptoCard

/-- THE SECOND FORM's CARD OF 'pandectlaw27.CommandLines'. -/
def commandLinesUptoCard : Claim7 := { stood := { row := commandLinesUptoRow, standIns := [], harness := (true, "4c6cfc634529148c81c282459d7f4f391a0394be788af4039c7767911d9a30e6"), looks := true }, kinds := [], alts := [], laidByText := true, laidKinds := [.data, .data, .data, .data, .sentinel, .sentinel, .pinned], laidTests := true, laidLooks := .later }
def CommandLinesUptoCardSaid : Prop := Claim7.holds Tryz.pinned (.plain (OpenSpec.upto commandLinesSpec)) commandLinesUptoCard
end Rows
end Go.Proofs.YtjjpngdbbjeaiaaGreatDoor
