/-
  DERIVED. GIVEN WITH THE SEED: THE CARDS: each row of YtbihdgnhdlpmgaaGreatDoorRows.lean that lists a variable, with what it lists TIED to the program's text (the seventh form; the later family's looks); each row that meets fmt, with fmt's text TOLD by the authors' own Lean function (tested against real Go, not proved from fmt's source: count such statements apart). THE CARD IS WHAT COUNTS. Prove the row's statement (the work); the ties are given (YtbihdgnhdlpmgaaGreatDoorTie.lean); close each card by the builder's one call (the guide's Derived/Test/ToyasCard.lean, 'card_holds'). Laid BY PROGRAM, IN A SANDBOX (cutbox-door.mjs). By AI agents, Wed Nov 11 2026. No macro, syntax, notation, axiom, sorry.
-/
import Derived.Test.YtbihdgnhdlpmgaaGreatDoorRows
import GoSem.ClaimSeven
namespace Go.Proofs.YtbihdgnhdlpmgaaGreatDoor
namespace Rows

/-- THE TIED CARD OF 'pandectlaw24.ChoiceOffers'. -/
def choiceOffersCard : Claim7 := { stood := { row := choiceOffersRow, standIns := [], harness := (true, "0fca2569c8520932a9acb4fd7c7a8ef844b80cbcc7e742ba804b86a235f18f9e"), looks := false }, kinds := [], alts := [], laidByText := true, laidKinds := [.data, .pinned], laidTests := true, laidLooks := .later }
def ChoiceOffersCardSaid : Prop := Claim7.holds Tryz.pinned (.plain (OpenSpec.ofChange choiceOffersSpec)) choiceOffersCard

/-- THE TIED CARD OF 'pandectlaw24.ChoiceTables'. -/
def choiceTablesCard : Claim7 := { stood := { row := choiceTablesRow, standIns := [], harness := (true, "0fca2569c8520932a9acb4fd7c7a8ef844b80cbcc7e742ba804b86a235f18f9e"), looks := false }, kinds := [], alts := [], laidByText := true, laidKinds := [.data, .pinned], laidTests := true, laidLooks := .later }
def ChoiceTablesCardSaid : Prop := Claim7.holds Tryz.pinned (.plain (OpenSpec.ofChange choiceTablesSpec)) choiceTablesCard

/-- THE TIED CARD OF 'pandectlaw24.ChoiceCounts'. -/
def choiceCountsCard : Claim7 := { stood := { row := choiceCountsRow, standIns := [], harness := (true, "0fca2569c8520932a9acb4fd7c7a8ef844b80cbcc7e742ba804b86a235f18f9e"), looks := false }, kinds := [], alts := [], laidByText := true, laidKinds := [.data, .pinned], laidTests := true, laidLooks := .later }
def ChoiceCountsCardSaid : Prop := Claim7.holds Tryz.pinned (.plain (OpenSpec.ofChange choiceCountsSpec)) choiceCountsCard

/-- THE TIED CARD OF 'pandectlaw24.ChoiceReach'. -/
def choiceReachCard : Claim7 := { stood := { row := choiceReachRow, standIns := [], harness := (true, "0fca2569c8520932a9acb4fd7c7a8ef844b80cbcc7e742ba804b86a235f18f9e"), looks := false }, kinds := [], alts := [], laidByText := true, laidKinds := [.data, .pinned], laidTests := true, laidLooks := .later }
def ChoiceReachCardSaid : Prop := Claim7.holds Tryz.pinned (.plain (OpenSpec.ofChange choiceReachSpec)) choiceReachCard

/-- THE TIED CARD OF 'pandectlaw24.ChoiceOrder'. -/
def choiceOrderCard : Claim7 := { stood := { row := choiceOrderRow, standIns := [], harness := (true, "0fca2569c8520932a9acb4fd7c7a8ef844b80cbcc7e742ba804b86a235f18f9e"), looks := false }, kinds := [], alts := [], laidByText := true, laidKinds := [.data, .pinned], laidTests := true, laidLooks := .later }
def ChoiceOrderCardSaid : Prop := Claim7.holds Tryz.pinned (.plain (OpenSpec.ofChange choiceOrderSpec)) choiceOrderCard

/-- THE TIED CARD OF 'pandectlaw24.ChoiceLess'. -/
def choiceLessCard : Claim7 := { stood := { row := choiceLessRow, standIns := [], harness := (true, "0fca2569c8520932a9acb4fd7c7a8ef844b80cbcc7e742ba804b86a235f18f9e"), looks := false }, kinds := [], alts := [], laidByText := true, laidKinds := [.data, .pinned], laidTests := true, laidLooks := .later }
def ChoiceLessCardSaid : Prop := Claim7.holds Tryz.pinned (.plain (OpenSpec.ofChange choiceLessSpec)) choiceLessCard

/-- THE SECOND FORM's CARD OF 'pandectlaw24.ChoiceOffers'. -/
def choiceOffersUptoCard : Claim7 := { stood := { row := choiceOffersUptoRow, standIns := [], harness := (true, "0fca2569c8520932a9acb4fd7c7a8ef844b80cbcc7e742ba804b86a235f18f9e"), looks := false }, kinds := [], alts := [], laidByText := true, laidKinds := [.data, .pinned], laidTests := true, laidLooks := .later }
def ChoiceOffersUptoCardSaid : Prop := Claim7.holds Tryz.pinned (.plain (OpenSpec.upto choiceOffersSpec)) choiceOffersUptoCard

/-- THE SECOND FORM's CARD OF 'pandectlaw24.ChoiceTables'. -/
def choiceTablesUptoCard : Claim7 := { stood := { row := choiceTablesUptoRow, standIns := [], harness := (true, "0fca2569c8520932a9acb4fd7c7a8ef844b80cbcc7e742ba804b86a235f18f9e"), looks := false }, kinds := [], alts := [], laidByText := true, laidKinds := [.data, .pinned], laidTests := true, laidLooks := .later }
def ChoiceTablesUptoCardSaid : Prop := Claim7.holds Tryz.pinned (.plain (OpenSpec.upto choiceTablesSpec)) choiceTablesUptoCard

/-- THE SECOND FORM's CARD OF 'pandectlaw24.ChoiceCounts'. -/
def choiceCountsUptoCard : Claim7 := { stood := { row := choiceCountsUptoRow, standIns := [], harness := (true, "0fca2569c8520932a9acb4fd7c7a8ef844b80cbcc7e742ba804b86a235f18f9e"), looks := false }, kinds := [], alts := [], laidByText := true, laidKinds := [.data, .pinned], laidTests := true, laidLooks := .later }
def ChoiceCountsUptoCardSaid : Prop := Claim7.holds Tryz.pinned (.plain (OpenSpec.upto choiceCountsSpec)) choiceCountsUptoCard

/-- THE SECOND FORM's CARD OF 'pandectlaw24.ChoiceReach'. -/
def choiceReachUptoCard : Claim7 := { stood := { row := choiceReachUptoRow, standIns := [], harness := (true, "0fca2569c8520932a9acb4fd7c7a8ef844b80cbcc7e742ba804b86a235f18f9e"), looks := false }, kinds := [], alts := [], laidByText := true, laidKinds := [.data, .pinned], laidTests := true, laidLooks := .later }
def ChoiceReachUptoCardSaid : Prop := Claim7.holds Tryz.pinned (.plain (OpenSpec.upto choiceReachSpec)) choiceReachUptoCard

/-- THE SECOND FORM's CARD OF 'pandectlaw24.ChoiceOrder'. -/
def choiceOrderUptoCard : Claim7 := { stood := { row := choiceOrderUptoRow, standIns := [], harness := (true, "0fca2569c8520932a9acb4fd7c7a8ef844b80cbcc7e742ba804b86a235f18f9e"), looks := false }, kinds := [], alts := [], laidByText := true, laidKinds := [.data, .pinned], laidTests := true, laidLooks := .later }
def ChoiceOrderUptoCardSaid : Prop := Claim7.holds Tryz.pinned (.plain (OpenSpec.upto choiceOrderSpec)) choiceOrderUptoCard

/-- THE SECOND FORM's CARD OF 'pandectlaw24.ChoiceLess'. -/
def choiceLessUptoCard : Claim7 := { stood := { row := choiceLessUptoRow, standIns := [], harness := (true, "0fca2569c8520932a9acb4fd7c7a8ef844b80cbcc7e742ba804b86a235f18f9e"), looks := false }, kinds := [], alts := [], laidByText := true, laidKinds := [.data, .pinned], laidTests := true, laidLooks := .later }
def ChoiceLessUptoCardSaid : Prop := Claim7.holds Tryz.pinned (.plain (OpenSpec.upto choiceLessSpec)) choiceLessUptoCard
end Rows
end Go.Proofs.YtbihdgnhdlpmgaaGreatDoor
