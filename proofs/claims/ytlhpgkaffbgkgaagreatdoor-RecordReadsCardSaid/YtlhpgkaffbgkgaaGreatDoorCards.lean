/-
  DERIVED. GIVEN WITH THE SEED: THE CARDS: each row of YtlhpgkaffbgkgaaGreatDoorRows.lean that lists a variable, with what it lists TIED to the program's text (the seventh form; the later family's looks); each row that meets fmt, with fmt's text TOLD by the authors' own Lean function (tested against real Go, not proved from fmt's source: count such statements apart). THE CARD IS WHAT COUNTS. Prove the row's statement (the work); the ties are given (YtlhpgkaffbgkgaaGreatDoorTie.lean); close each card by the builder's one call (the guide's Derived/Test/ToyasCard.lean, 'card_holds'). Laid BY PROGRAM, IN A SANDBOX (cutbox-door.mjs). By AI agents, Wed Nov 11 2026. No macro, syntax, notation, axiom, sorry.
-/
import Derived.Test.YtlhpgkaffbgkgaaGreatDoorRows
import GoSem.ClaimSeven
namespace Go.Proofs.YtlhpgkaffbgkgaaGreatDoor
namespace Rows

/-- THE TIED CARD OF 'pandectlaw22.RecordReleases'. -/
def recordReleasesCard : Claim7 := { stood := { row := recordReleasesRow, standIns := [], harness := (true, "09095070097777a355b1eba5727ca3b01277a959726d19d508fe9a745e3d3aa4"), looks := true }, kinds := [], alts := [], laidByText := true, laidKinds := [.data, .data, .data, .data, .sentinel, .sentinel, .pinned], laidTests := true, laidLooks := .later }
def RecordReleasesCardSaid : Prop := Claim7.holds Tryz.pinned (.plain (OpenSpec.ofChange recordReleasesSpec)) recordReleasesCard

/-- THE TIED CARD OF 'pandectlaw22.RecordReads'. -/
def recordReadsCard : Claim7 := { stood := { row := recordReadsRow, standIns := [], harness := (true, "09095070097777a355b1eba5727ca3b01277a959726d19d508fe9a745e3d3aa4"), looks := true }, kinds := [], alts := [], laidByText := true, laidKinds := [.data, .data, .data, .data, .sentinel, .sentinel, .pinned], laidTests := true, laidLooks := .later }
def RecordReadsCardSaid : Prop := Claim7.holds Tryz.pinned (.plain (OpenSpec.ofChange recordReadsSpec)) recordReadsCard

/-- THE TIED CARD OF 'pandectlaw22.RecordBack'. -/
def recordBackCard : Claim7 := { stood := { row := recordBackRow, standIns := [], harness := (true, "09095070097777a355b1eba5727ca3b01277a959726d19d508fe9a745e3d3aa4"), looks := true }, kinds := [], alts := [], laidByText := true, laidKinds := [.data, .data, .data, .data, .sentinel, .sentinel, .pinned], laidTests := true, laidLooks := .later }
def RecordBackCardSaid : Prop := Claim7.holds Tryz.pinned (.plain (OpenSpec.ofChange recordBackSpec)) recordBackCard

/-- THE TIED CARD OF 'pandectlaw22.RecordKeys'. -/
def recordKeysCard : Claim7 := { stood := { row := recordKeysRow, standIns := [], harness := (true, "09095070097777a355b1eba5727ca3b01277a959726d19d508fe9a745e3d3aa4"), looks := true }, kinds := [], alts := [], laidByText := true, laidKinds := [.data, .data, .data, .data, .sentinel, .sentinel, .pinned], laidTests := true, laidLooks := .later }
def RecordKeysCardSaid : Prop := Claim7.holds Tryz.pinned (.plain (OpenSpec.ofChange recordKeysSpec)) recordKeysCard

/-- THE TIED CARD OF 'pandectlaw22.RecordApart'. -/
def recordApartCard : Claim7 := { stood := { row := recordApartRow, standIns := [], harness := (true, "09095070097777a355b1eba5727ca3b01277a959726d19d508fe9a745e3d3aa4"), looks := true }, kinds := [], alts := [], laidByText := true, laidKinds := [.data, .data, .data, .data, .sentinel, .sentinel, .pinned], laidTests := true, laidLooks := .later }
def RecordApartCardSaid : Prop := Claim7.holds Tryz.pinned (.plain (OpenSpec.ofChange recordApartSpec)) recordApartCard

/-- THE SECOND FORM's CARD OF 'pandectlaw22.RecordReleases'. -/
def recordReleasesUptoCard : Claim7 := { stood := { row := recordReleasesUptoRow, standIns := [], harness := (true, "09095070097777a355b1eba5727ca3b01277a959726d19d508fe9a745e3d3aa4"), looks := true }, kinds := [], alts := [], laidByText := true, laidKinds := [.data, .data, .data, .data, .sentinel, .sentinel, .pinned], laidTests := true, laidLooks := .later }
def RecordReleasesUptoCardSaid : Prop := Claim7.holds Tryz.pinned (.plain (OpenSpec.upto recordReleasesSpec)) recordReleasesUptoCard

/-- THE SECOND FORM's CARD OF 'pandectlaw22.RecordReads'. -/
def recordReadsUptoCard : Claim7 := { stood := { row := recordReadsUptoRow, standIns := [], harness := (true, "09095070097777a355b1eba5727ca3b01277a959726d19d508fe9a745e3d3aa4"), looks := true }, kinds := [], alts := [], laidByText := true, laidKinds := [.data, .data, .data, .data, .sentinel, .sentinel, .pinned], laidTests := true, laidLooks := .later }
def RecordReadsUptoCardSaid : Prop := Claim7.holds Tryz.pinned (.plain (OpenSpec.upto recordReadsSpec)) recordReadsUptoCard

/-- THE SECOND FORM's CARD OF 'pandectlaw22.RecordBack'. -/
def recordBackUptoCard : Claim7 := { stood := { row := recordBackUptoRow, standIns := [], harness := (true, "09095070097777a355b1eba5727ca3b01277a959726d19d508fe9a745e3d3aa4"), looks := true }, kinds := [], alts := [], laidByText := true, laidKinds := [.data, .data, .data, .data, .sentinel, .sentinel, .pinned], laidTests := true, laidLooks := .later }
def RecordBackUptoCardSaid : Prop := Claim7.holds Tryz.pinned (.plain (OpenSpec.upto recordBackSpec)) recordBackUptoCard

/-- THE SECOND FORM's CARD OF 'pandectlaw22.RecordKeys'. -/
def recordKeysUptoCard : Claim7 := { stood := { row := recordKeysUptoRow, standIns := [], harness := (true, "09095070097777a355b1eba5727ca3b01277a959726d19d508fe9a745e3d3aa4"), looks := true }, kinds := [], alts := [], laidByText := true, laidKinds := [.data, .data, .data, .data, .sentinel, .sentinel, .pinned], laidTests := true, laidLooks := .later }
def RecordKeysUptoCardSaid : Prop := Claim7.holds Tryz.pinned (.plain (OpenSpec.upto recordKeysSpec)) recordKeysUptoCard

/-- THE SECOND FORM's CARD OF 'pandectlaw22.RecordApart'. -/
def recordApartUptoCard : Claim7 := { stood := { row := recordApartUptoRow, standIns := [], harness := (true, "09095070097777a355b1eba5727ca3b01277a959726d19d508fe9a745e3d3aa4"), looks := true }, kinds := [], alts := [], laidByText := true, laidKinds := [.data, .data, .data, .data, .sentinel, .sentinel, .pinned], laidTests := true, laidLooks := .later }
def RecordApartUptoCardSaid : Prop := Claim7.holds Tryz.pinned (.plain (OpenSpec.upto recordApartSpec)) recordApartUptoCard
end Rows
end Go.Proofs.YtlhpgkaffbgkgaaGreatDoor
