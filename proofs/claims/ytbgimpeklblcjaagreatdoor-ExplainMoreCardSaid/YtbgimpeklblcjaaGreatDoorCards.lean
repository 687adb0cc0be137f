/-
  DERIVED. GIVEN WITH THE SEED: THE CARDS: each row of YtbgimpeklblcjaaGreatDoorRows.lean that lists a variable, with what it lists TIED to the program's text (the seventh form; the later family's looks); each row that meets fmt, with fmt's text TOLD by the authors' own Lean function (tested against real Go, not proved from fmt's source: count such statements apart). THE CARD IS WHAT COUNTS. Prove the row's statement (the work); the ties are given (YtbgimpeklblcjaaGreatDoorTie.lean); close each card by the builder's one call (the guide's Derived/Test/ToyasCard.lean, 'card_holds'). Laid BY PROGRAM, IN A SANDBOX (cutbox-door.mjs). By AI agents, Wed Nov 11 2026. No macro, syntax, notation, axiom, sorry.
-/
import Derived.Test.YtbgimpeklblcjaaGreatDoorRows
import GoSem.ClaimSeven
namespace Go.Proofs.YtbgimpeklblcjaaGreatDoor
namespace Rows

/-- THE TIED CARD OF 'pandectlaw26.ExplainBlames'. -/
def explainBlamesCard : Claim7 := { stood := { row := explainBlamesRow, standIns := [], harness := (true, "692be48ec124b2e191208a87c81cc9edf7605872476f78385d3e1ca17270908b"), looks := false }, kinds := [], alts := [], laidByText := true, laidKinds := [.data, .data, .data, .data, .pinned], laidTests := true, laidLooks := .later }
def ExplainBlamesCardSaid : Prop := Claim7.holds Tryz.pinned (.plain (OpenSpec.ofChange explainBlamesSpec)) explainBlamesCard

/-- THE TIED CARD OF 'pandectlaw26.ExplainTexts'. -/
def explainTextsCard : Claim7 := { stood := { row := explainTextsRow, standIns := [], harness := (true, "692be48ec124b2e191208a87c81cc9edf7605872476f78385d3e1ca17270908b"), looks := false }, kinds := [], alts := [], laidByText := true, laidKinds := [.data, .data, .data, .data, .pinned], laidTests := true, laidLooks := .later }
def ExplainTextsCardSaid : Prop := Claim7.holds Tryz.pinned (.plain (OpenSpec.ofChange explainTextsSpec)) explainTextsCard

/-- THE TIED CARD OF 'pandectlaw26.ExplainShows'. -/
def explainShowsCard : Claim7 := { stood := { row := explainShowsRow, standIns := [], harness := (true, "692be48ec124b2e191208a87c81cc9edf7605872476f78385d3e1ca17270908b"), looks := false }, kinds := [], alts := [], laidByText := true, laidKinds := [.data, .data, .data, .data, .pinned], laidTests := true, laidLooks := .later }
def ExplainShowsCardSaid : Prop := Claim7.holds Tryz.pinned (.plain (OpenSpec.ofChange explainShowsSpec)) explainShowsCard

/-- THE TIED CARD OF 'pandectlaw26.ExplainFirst'. -/
def explainFirstCard : Claim7 := { stood := { row := explainFirstRow, standIns := [], harness := (true, "692be48ec124b2e191208a87c81cc9edf7605872476f78385d3e1ca17270908b"), looks := false }, kinds := [], alts := [], laidByText := true, laidKinds := [.data, .data, .data, .data, .pinned], laidTests := true, laidLooks := .later }
def ExplainFirstCardSaid : Prop := Claim7.holds Tryz.pinned (.plain (OpenSpec.ofChange explainFirstSpec)) explainFirstCard

/-- THE TIED CARD OF 'pandectlaw26.ExplainMore'. -/
def explainMoreCard : Claim7 := { stood := { row := explainMoreRow, standIns := [], harness := (true, "692be48ec124b2e191208a87c81cc9edf7605872476f78385d3e1ca17270908b"), looks := false }, kinds := [], alts := [], laidByText := true, laidKinds := [.data, .data, .data, .data, .pinned], laidTests := true, laidLooks := .later }
def ExplainMoreCardSaid : Prop := Claim7.holds Tryz.pinned (.plain (OpenSpec.ofChange explainMoreSpec)) explainMoreCard

/-- THE SECOND FORM's CARD OF 'pandectlaw26.ExplainBlames'. -/
def explainBlamesUptoCard : Claim7 := { stood := { row := explainBlamesUptoRow, standIns := [], harness := (true, "692be48ec124b2e191208a87c81cc9edf7605872476f78385d3e1ca17270908b"), looks := false }, kinds := [], alts := [], laidByText := true, laidKinds := [.data, .data, .data, .data, .pinned], laidTests := true, laidLooks := .later }
def ExplainBlamesUptoCardSaid : Prop := Claim7.holds Tryz.pinned (.plain (OpenSpec.upto explainBlamesSpec)) explainBlamesUptoCard

/-- THE SECOND FORM's CARD OF 'pandectlaw26.ExplainTexts'. -/
def explainTextsUptoCard : Claim7 := { stood := { row := explainTextsUptoRow, standIns := [], harness := (true, "692be48ec124b2e191208a87c81cc9edf7605872476f78385d3e1ca17270908b"), looks := false }, kinds := [], alts := [], laidByText := true, laidKinds := [.data, .data, .data, .data, .pinned], laidTests := true, laidLooks := .later }
def ExplainTextsUptoCardSaid : Prop := Claim7.holds Tryz.pinned (.plain (OpenSpec.upto explainTextsSpec)) explainTextsUptoCard

/-- THE SECOND FORM's CARD OF 'pandectlaw26.ExplainShows'. -/
def explainShowsUptoCard : Claim7 := { stood := { row := explainShowsUptoRow, standIns := [], harness := (true, "692be48ec124b2e191208a87c81cc9edf7605872476f78385d3e1ca17270908b"), looks := false }, kinds := [], alts := [], laidByText := true, laidKinds := [.data, .data, .data, .data, .pinned], laidTests := true, laidLooks := .later }
def ExplainShowsUptoCardSaid : Prop := Claim7.holds Tryz.pinned (.plain (OpenSpec.upto explainShowsSpec)) explainShowsUptoCard

/-- THE SECOND FORM's CARD OF 'pandectlaw26.ExplainFirst'. -/
def explainFirstUptoCard : Claim7 := { stood := { row := explainFirstUptoRow, standIns := [], harness := (true, "692be48ec124b2e191208a87c81cc9edf7605872476f78385d3e1ca17270908b"), looks := false }, kinds := [], alts := [], laidByText := true, laidKinds := [.data, .data, .data, .data, .pinned], laidTests := true, laidLooks := .later }
def ExplainFirstUptoCardSaid : Prop := Claim7.holds Tryz.pinned (.plain (OpenSpec.upto explainFirstSpec)) explainFirstUptoCard

/-- THE SECOND FORM's CARD OF 'pandectlaw26.ExplainMore'. -/
def explainMoreUptoCard : Claim7 := { stood := { row := explainMoreUptoRow, standIns := [], harness := (true, "692be48ec124b2e191208a87c81cc9edf7605872476f78385d3e1ca17270908b"), looks := false }, kinds := [], alts := [], laidByText := true, laidKinds := [.data, .data, .data, .data, .pinned], laidTests := true, laidLooks := .later }
def ExplainMoreUptoCardSaid : Prop := Claim7.holds Tryz.pinned (.plain (OpenSpec.upto explainMoreSpec)) explainMoreUptoCard
end Rows
end Go.Proofs.YtbgimpeklblcjaaGreatDoor
