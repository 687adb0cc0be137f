/-
  DERIVED. GIVEN WITH THE SEED: THE CARDS: each row of YthojbknakmjndaaDoorRows.lean that lists a variable, with what it lists TIED to the program's text (the seventh form; the later family's looks); each row that meets fmt, with fmt's text TOLD by the authors' own Lean function (tested against real Go, not proved from fmt's source: count such statements apart). THE CARD IS WHAT COUNTS. Prove the row's statement (the work); the ties are given (YthojbknakmjndaaDoorTie.lean); close each card by the builder's one call (the guide's Derived/Test/ToyasCard.lean, 'card_holds'). Laid BY PROGRAM, IN A SANDBOX (cutbox-door.mjs). By AI agents, Wed Nov 11 2026. No macro, syntax, notation, axiom, sorry.
-/
import Derived.Test.YthojbknakmjndaaDoorRows
import GoSem.ClaimSeven
namespace Go.Proofs.YthojbknakmjndaaDoor
namespace Rows

/-- THE TIED CARD OF 'pandectlaw05.RangesBack'. -/
def rangesBackCard : Claim7 := { stood := { row := rangesBackRow, standIns := [], harness := (true, "00b1190aa2ddb3c9b17d4f24d32f8326f47f376dd751a1b51d2ac3e5a24159b3"), looks := true }, kinds := [], alts := [], laidByText := true, laidKinds := [.data, .data, .data, .data, .sentinel, .sentinel, .pinned], laidTests := true, laidLooks := .later }
def RangesBackCardSaid : Prop := Claim7.holds Tryd.pinned (.plain (OpenSpec.ofChange rangesBackSpec)) rangesBackCard

/-- THE TIED CARD OF 'pandectlaw05.RangesNear'. -/
def rangesNearCard : Claim7 := { stood := { row := rangesNearRow, standIns := [], harness := (true, "00b1190aa2ddb3c9b17d4f24d32f8326f47f376dd751a1b51d2ac3e5a24159b3"), looks := true }, kinds := [], alts := [], laidByText := true, laidKinds := [.data, .data, .data, .data, .sentinel, .sentinel, .pinned], laidTests := true, laidLooks := .later }
def RangesNearCardSaid : Prop := Claim7.holds Tryd.pinned (.plain (OpenSpec.ofChange rangesNearSpec)) rangesNearCard

/-- THE SECOND FORM's CARD OF 'pandectlaw05.RangesBack'. -/
def rangesBackUptoCard : Claim7 := { stood := { row := rangesBackUptoRow, standIns := [], harness := (true, "00b1190aa2ddb3c9b17d4f24d32f8326f47f376dd751a1b51d2ac3e5a24159b3"), looks := true }, kinds := [], alts := [], laidByText := true, laidKinds := [.data, .data, .data, .data, .sentinel, .sentinel, .pinned], laidTests := true, laidLooks := .later }
def RangesBackUptoCardSaid : Prop := Claim7.holds Tryd.pinned (.plain (OpenSpec.upto rangesBackSpec)) rangesBackUptoCard

/-- THE SECOND FORM's CARD OF 'pandectlaw05.RangesNear'. -/
def rangesNearUptoCard : Claim7 := { stood := { row := rangesNearUptoRow, standIns := [], harness := (true, "00b1190aa2ddb3c9b17d4f24d32f8326f47f376dd751a1b51d2ac3e5a24159b3"), looks := true }, kinds := [], alts := [], laidByText := true, laidKinds := [.data, .data, .data, .data, .sentinel, .sentinel, .pinned], laidTests := true, laidLooks := .later }
def RangesNearUptoCardSaid : Prop := Claim7.holds Tryd.pinned (.plain (OpenSpec.upto rangesNearSpec)) rangesNearUptoCard
end Rows
end Go.Proofs.YthojbknakmjndaaDoor
