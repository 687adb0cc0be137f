/-
  DERIVED. GIVEN WITH THE SEED: THE CARDS: each row of YtllkiedikjgkbaaGreatDoorRows.lean that lists a variable, with what it lists TIED to the program's text (the seventh form; the later family's looks); each row that meets fmt, with fmt's text TOLD by the authors' own Lean function (tested against real Go, not proved from fmt's source: count such statements apart). THE CARD IS WHAT COUNTS. Prove the row's statement (the work); the ties are given (YtllkiedikjgkbaaGreatDoorTie.lean); close each card by the builder's one call (the guide's Derived/Test/ToyasCard.lean, 'card_holds'). Laid BY PROGRAM, IN A SANDBOX (cutbox-door.mjs). By AI agents, Wed Nov 11 2026. No macro, syntax, notation, axiom, sorry.
-/
import Derived.Test.YtllkiedikjgkbaaGreatDoorRows
import GoSem.ClaimSeven
namespace Go.Proofs.YtllkiedikjgkbaaGreatDoor
namespace Rows

/-- THE TIED CARD OF 'pandectlaw24.ChoiceReach'. -/
def choiceReachCard : Claim7 := { stood := { row := choiceReachRow, standIns := [], harness := (true, "d42496c6e0f34e45cd6cac72bdded58dba9d744ba2e130618153696f1d91d4f7"), looks := false }, kinds := [], alts := [], laidByText := true, laidKinds := [.data, .pinned], laidTests := true, laidLooks := .later }
def ChoiceReachCardSaid : Prop := Claim7.holds Tryz.pinned (.plain (OpenSpec.ofChange choiceReachSpec)) choiceReachCard

/-- THE TIED CARD OF 'pandectlaw24.ChoiceOrder'. -/
def choiceOrderCard : Claim7 := { stood := { row := choiceOrderRow, standIns := [], harness := (true, "d42496c6e0f34e45cd6cac72bdded58dba9d744ba2e130618153696f1d91d4f7"), looks := false }, kinds := [], alts := [], laidByText := true, laidKinds := [.data, .pinned], laidTests := true, laidLooks := .later }
def ChoiceOrderCardSaid : Prop := Claim7.holds Tryz.pinned (.plain (OpenSpec.ofChange choiceOrderSpec)) choiceOrderCard

/-- THE TIED CARD OF 'pandectlaw24.ChoiceLess'. -/
def choiceLessCard : Claim7 := { stood := { row := choiceLessRow, standIns := [], harness := (true, "d42496c6e0f34e45cd6cac72bdded58dba9d744ba2e130618153696f1d91d4f7"), looks := false }, kinds := [], alts := [], laidByText := true, laidKinds := [.data, .pinned], laidTests := true, laidLooks := .later }
def ChoiceLessCardSaid : Prop := Claim7.holds Tryz.pinned (.plain (OpenSpec.ofChange choiceLessSpec)) choiceLessCard

/-- THE TIED CARD OF 'pandectlaw25.SolveSolves'. -/
def solveSolvesCard : Claim7 := { stood := { row := solveSolvesRow, standIns := [], harness := (true, "d42496c6e0f34e45cd6cac72bdded58dba9d744ba2e130618153696f1d91d4f7"), looks := false }, kinds := [], alts := [], laidByText := true, laidKinds := [.data, .pinned], laidTests := true, laidLooks := .later }
def SolveSolvesCardSaid : Prop := Claim7.holds Tryz.pinned (.plain (OpenSpec.ofChange solveSolvesSpec)) solveSolvesCard

/-- THE TIED CARD OF 'pandectlaw25.SolveHolds'. -/
def solveHoldsCard : Claim7 := { stood := { row := solveHoldsRow, standIns := [], harness := (true, "d42496c6e0f34e45cd6cac72bdded58dba9d744ba2e130618153696f1d91d4f7"), looks := false }, kinds := [], alts := [], laidByText := true, laidKinds := [.data, .pinned], laidTests := true, laidLooks := .later }
def SolveHoldsCardSaid : Prop := Claim7.holds Tryz.pinned (.plain (OpenSpec.ofChange solveHoldsSpec)) solveHoldsCard

/-- THE TIED CARD OF 'pandectlaw25.SolveSound'. -/
def solveSoundCard : Claim7 := { stood := { row := solveSoundRow, standIns := [], harness := (true, "d42496c6e0f34e45cd6cac72bdded58dba9d744ba2e130618153696f1d91d4f7"), looks := false }, kinds := [], alts := [], laidByText := true, laidKinds := [.data, .pinned], laidTests := true, laidLooks := .later }
def SolveSoundCardSaid : Prop := Claim7.holds Tryz.pinned (.plain (OpenSpec.ofChange solveSoundSpec)) solveSoundCard

/-- THE TIED CARD OF 'pandectlaw25.SolveBudget'. -/
def solveBudgetCard : Claim7 := { stood := { row := solveBudgetRow, standIns := [], harness := (true, "d42496c6e0f34e45cd6cac72bdded58dba9d744ba2e130618153696f1d91d4f7"), looks := false }, kinds := [], alts := [], laidByText := true, laidKinds := [.data, .pinned], laidTests := true, laidLooks := .later }
def SolveBudgetCardSaid : Prop := Claim7.holds Tryz.pinned (.plain (OpenSpec.ofChange solveBudgetSpec)) solveBudgetCard

/-- THE TIED CARD OF 'pandectlaw25.SolveFirst'. -/
def solveFirstCard : Claim7 := { stood := { row := solveFirstRow, standIns := [], harness := (true, "d42496c6e0f34e45cd6cac72bdded58dba9d744ba2e130618153696f1d91d4f7"), looks := false }, kinds := [], alts := [], laidByText := true, laidKinds := [.data, .pinned], laidTests := true, laidLooks := .later }
def SolveFirstCardSaid : Prop := Claim7.holds Tryz.pinned (.plain (OpenSpec.ofChange solveFirstSpec)) solveFirstCard

/-- THE TIED CARD OF 'pandectlaw26.ExplainBlames'. -/
def explainBlamesCard : Claim7 := { stood := { row := explainBlamesRow, standIns := [], harness := (true, "d42496c6e0f34e45cd6cac72bdded58dba9d744ba2e130618153696f1d91d4f7"), looks := false }, kinds := [], alts := [], laidByText := true, laidKinds := [.data, .data, .data, .data, .pinned], laidTests := true, laidLooks := .later }
def ExplainBlamesCardSaid : Prop := Claim7.holds Tryz.pinned (.plain (OpenSpec.ofChange explainBlamesSpec)) explainBlamesCard

/-- THE TIED CARD OF 'pandectlaw26.ExplainTexts'. -/
def explainTextsCard : Claim7 := { stood := { row := explainTextsRow, standIns := [], harness := (true, "d42496c6e0f34e45cd6cac72bdded58dba9d744ba2e130618153696f1d91d4f7"), looks := false }, kinds := [], alts := [], laidByText := true, laidKinds := [.data, .data, .data, .data, .pinned], laidTests := true, laidLooks := .later }
def ExplainTextsCardSaid : Prop := Claim7.holds Tryz.pinned (.plain (OpenSpec.ofChange explainTextsSpec)) explainTextsCard

/-- THE TIED CARD OF 'pandectlaw26.ExplainShows'. -/
def explainShowsCard : Claim7 := { stood := { row := explainShowsRow, standIns := [], harness := (true, "d42496c6e0f34e45cd6cac72bdded58dba9d744ba2e130618153696f1d91d4f7"), looks := false }, kinds := [], alts := [], laidByText := true, laidKinds := [.data, .data, .data, .data, .pinned], laidTests := true, laidLooks := .later }
def ExplainShowsCardSaid : Prop := Claim7.holds Tryz.pinned (.plain (OpenSpec.ofChange explainShowsSpec)) explainShowsCard

/-- THE TIED CARD OF 'pandectlaw26.ExplainFirst'. -/
def explainFirstCard : Claim7 := { stood := { row := explainFirstRow, standIns := [], harness := (true, "d42496c6e0f34e45cd6cac72bdded58dba9d744ba2e130618153696f1d91d4f7"), looks := false }, kinds := [], alts := [], laidByText := true, laidKinds := [.data, .data, .data, .data, .pinned], laidTests := true, laidLooks := .later }
def ExplainFirstCardSaid : Prop := Claim7.holds Tryz.pinned (.plain (OpenSpec.ofChange explainFirstSpec)) explainFirstCard

/-- THE TIED CARD OF 'pandectlaw26.ExplainMore'. -/
def explainMoreCard : Claim7 := { stood := { row := explainMoreRow, standIns := [], harness := (true, "d42496c6e0f34e45cd6cac72bdded58dba9d744ba2e130618153696f1d91d4f7"), looks := false }, kinds := [], alts := [], laidByText := true, laidKinds := [.data, .data, .data, .data, .pinned], laidTests := true, laidLooks := .later }
def ExplainMoreCardSaid : Prop := Claim7.holds Tryz.pinned (.plain (OpenSpec.ofChange explainMoreSpec)) explainMoreCard

/-- THE SECOND FORM's CARD OF 'pandectlaw24.ChoiceReach'. -/
def choiceReachUptoCard : Claim7 := { stood := { row := choiceReachUptoRow, standIns := [], harness := (true, "d42496c6e0f34e45cd6cac72bdded58dba9d744ba2e130618153696f1d91d4f7"), looks := false }, kinds := [], alts := [], laidByText := true, laidKinds := [.data, .pinned], laidTests := true, laidLooks := .later }
def ChoiceReachUptoCardSaid : Prop := Claim7.holds Tryz.pinned (.plain (OpenSpec.upto choiceReachSpec)) choiceReachUptoCard

/-- THE SECOND FORM's CARD OF 'pandectlaw24.ChoiceOrder'. -/
def choiceOrderUptoCard : Claim7 := { stood := { row := choiceOrderUptoRow, standIns := [], harness := (true, "d42496c6e0f34e45cd6cac72bdded58dba9d744ba2e130618153696f1d91d4f7"), looks := false }, kinds := [], alts := [], laidByText := true, laidKinds := [.data, .pinned], laidTests := true, laidLooks := .later }
def ChoiceOrderUptoCardSaid : Prop := Claim7.holds Tryz.pinned (.plain (OpenSpec.upto choiceOrderSpec)) choiceOrderUptoCard

/-- THE SECOND FORM's CARD OF 'pandectlaw24.ChoiceLess'. -/
def choiceLessUptoCard : Claim7 := { stood := { row := choiceLessUptoRow, standIns := [], harness := (true, "d42496c6e0f34e45cd6cac72bdded58dba9d744ba2e130618153696f1d91d4f7"), looks := false }, kinds := [], alts := [], laidByText := true, laidKinds := [.data, .pinned], laidTests := true, laidLooks := .later }
def ChoiceLessUptoCardSaid : Prop := Claim7.holds Tryz.pinned (.plain (OpenSpec.upto choiceLessSpec)) choiceLessUptoCard

/-- THE SECOND FORM's CARD OF 'pandectlaw25.SolveSolves'. -/
def solveSolvesUptoCard : Claim7 := { stood := { row := solveSolvesUptoRow, standIns := [], harness := (true, "d42496c6e0f34e45cd6cac72bdded58dba9d744ba2e130618153696f1d91d4f7"), looks := false }, kinds := [], alts := [], laidByText := true, laidKinds := [.data, .pinned], laidTests := true, laidLooks := .later }
def SolveSolvesUptoCardSaid : Prop := Claim7.holds Tryz.pinned (.plain (OpenSpec.upto solveSolvesSpec)) solveSolvesUptoCard

/-- THE SECOND FORM's CARD OF 'pandectlaw25.SolveHolds'. -/
def solveHoldsUptoCard : Claim7 := { stood := { row := solveHoldsUptoRow, standIns := [], harness := (true, "d42496c6e0f34e45cd6cac72bdded58dba9d744ba2e130618153696f1d91d4f7"), looks := false }, kinds := [], alts := [], laidByText := true, laidKinds := [.data, .pinned], laidTests := true, laidLooks := .later }
def SolveHoldsUptoCardSaid : Prop := Claim7.holds Tryz.pinned (.plain (OpenSpec.upto solveHoldsSpec)) solveHoldsUptoCard

/-- THE SECOND FORM's CARD OF 'pandectlaw25.SolveSound'. -/
def solveSoundUptoCard : Claim7 := { stood := { row := solveSoundUptoRow, standIns := [], harness := (true, "d42496c6e0f34e45cd6cac72bdded58dba9d744ba2e130618153696f1d91d4f7"), looks := false }, kinds := [], alts := [], laidByText := true, laidKinds := [.data, .pinned], laidTests := true, laidLooks := .later }
def SolveSoundUptoCardSaid : Prop := Claim7.holds Tryz.pinned (.plain (OpenSpec.upto solveSoundSpec)) solveSoundUptoCard

/-- THE SECOND FORM's CARD OF 'pandectlaw25.SolveBudget'. -/
def solveBudgetUptoCard : Claim7 := { stood := { row := solveBudgetUptoRow, standIns := [], harness := (true, "d42496c6e0f34e45cd6cac72bdded58dba9d744ba2e130618153696f1d91d4f7"), looks := false }, kinds := [], alts := [], laidByText := true, laidKinds := [.data, .pinned], laidTests := true, laidLooks := .later }
def SolveBudgetUptoCardSaid : Prop := Claim7.holds Tryz.pinned (.plain (OpenSpec.upto solveBudgetSpec)) solveBudgetUptoCard

/-- THE SECOND FORM's CARD OF 'pandectlaw25.SolveFirst'. -/
def solveFirstUptoCard : Claim7 := { stood := { row := solveFirstUptoRow, standIns := [], harness := (true, "d42496c6e0f34e45cd6cac72bdded58dba9d744ba2e130618153696f1d91d4f7"), looks := false }, kinds := [], alts := [], laidByText := true, laidKinds := [.data, .pinned], laidTests := true, laidLooks := .later }
def SolveFirstUptoCardSaid : Prop := Claim7.holds Tryz.pinned (.plain (OpenSpec.upto solveFirstSpec)) solveFirstUptoCard

/-- THE SECOND FORM's CARD OF 'pandectlaw26.ExplainBlames'. -/
def explainBlamesUptoCard : Claim7 := { stood := { row := explainBlamesUptoRow, standIns := [], harness := (true, "d42496c6e0f34e45cd6cac72bdded58dba9d744ba2e130618153696f1d91d4f7"), looks := false }, kinds := [], alts := [], laidByText := true, laidKinds := [.data, .data, .data, .data, .pinned], laidTests := true, laidLooks := .later }
def ExplainBlamesUptoCardSaid : Prop := Claim7.holds Tryz.pinned (.plain (OpenSpec.upto explainBlamesSpec)) explainBlamesUptoCard

/-- THE SECOND FORM's CARD OF 'pandectlaw26.ExplainTexts'. -/
def explainTextsUptoCard : Claim7 := { stood := { row := explainTextsUptoRow, standIns := [], harness := (true, "d42496c6e0f34e45cd6cac72bdded58dba9d744ba2e130618153696f1d91d4f7"), looks := false }, kinds := [], alts := [], laidByText := true, laidKinds := [.data, .data, .data, .data, .pinned], laidTests := true, laidLooks := .later }
def ExplainTextsUptoCardSaid : Prop := Claim7.holds Tryz.pinned (.plain (OpenSpec.upto explainTextsSpec)) explainTextsUptoCard

/-- THE SECOND FORM's CARD OF 'pandectlaw26.ExplainShows'. -/
def explainShowsUptoCard : Claim7 := { stood := { row := explainShowsUptoRow, standIns := [], harness := (true, "d42496c6e0f34e45cd6cac72bdded58dba9d744ba2e130618153696f1d91d4f7"), looks := false }, kinds := [], alts := [], laidByText := true, laidKinds := [.data, .data, .data, .data, .pinned], laidTests := true, laidLooks := .later }
def ExplainShowsUptoCardSaid : Prop := Claim7.holds Tryz.pinned (.plain (OpenSpec.upto explainShowsSpec)) explainShowsUptoCard

/-- THE SECOND FORM's CARD OF 'pandectlaw26.ExplainFirst'. -/
def explainFirstUptoCard : Claim7 := { stood := { row := explainFirstUptoRow, standIns := [], harness := (true, "d42496c6e0f34e45cd6cac72bdded58dba9d744ba2e130618153696f1d91d4f7"), looks := false }, kinds := [], alts := [], laidByText := true, laidKinds := [.data, .data, .data, .data, .pinned], laidTests := true, laidLooks := .later }
def ExplainFirstUptoCardSaid : Prop := Claim7.holds Tryz.pinned (.plain (OpenSpec.upto explainFirstSpec)) explainFirstUptoCard

/-- THE SECOND FORM's CARD OF 'pandectlaw26.ExplainMore'. -/
def explainMoreUptoCard : Claim7 := { stood := { row := explainMoreUptoRow, standIns := [], harness := (true, "d42496c6e0f34e45cd6cac72bdded58dba9d744ba2e130618153696f1d91d4f7"), looks := false }, kinds := [], alts := [], laidByText := true, laidKinds := [.data, .data, .data, .data, .pinned], laidTests := true, laidLooks := .later }
def ExplainMoreUptoCardSaid : Prop := Claim7.holds Tryz.pinned (.plain (OpenSpec.upto explainMoreSpec)) explainMoreUptoCard
end Rows
end Go.Proofs.YtllkiedikjgkbaaGreatDoor
