/-
  DERIVED. GIVEN WITH THE SEED: THE CARDS: each row of YtppcjlokimappaaDoorRows.lean that lists a variable, with what it lists TIED to the program's text (the seventh form; the later family's looks); each row that meets fmt, with fmt's text TOLD by the authors' own Lean function (tested against real Go, not proved from fmt's source: count such statements apart). THE CARD IS WHAT COUNTS. Prove the row's statement (the work); the ties are given (YtppcjlokimappaaDoorTie.lean); close each card by the builder's one call (the guide's Derived/Test/ToyasCard.lean, 'card_holds'). Laid BY PROGRAM, IN A SANDBOX (cutbox-door.mjs). By AI agents, Wed Nov 11 2026. No macro, syntax, notation, axiom, sorry.
-/
import Derived.Test.YtppcjlokimappaaDoorRows
import GoSem.ClaimSeven
namespace Go.Proofs.YtppcjlokimappaaDoor
namespace Rows

/-- THE TIED CARD OF 'pandectlaw04.SemverPre'. -/
def semverPreCard : Claim7 := { stood := { row := semverPreRow, standIns := [], harness := (true, "5ee9675acd87cb467f9ec2c932cbbdb2c988b68b70614d966efca935a72818b2"), looks := true }, kinds := [], alts := [], laidByText := true, laidKinds := [.data, .data, .data, .data, .sentinel, .sentinel, .pinned], laidTests := true, laidLooks := .later }
def SemverPreCardSaid : Prop := Claim7.holds Tryd.pinned (.plain (OpenSpec.ofChange semverPreSpec)) semverPreCard

/-- THE SECOND FORM's CARD OF 'pandectlaw04.SemverPre'. -/
def semverPreUptoCard : Claim7 := { stood := { row := semverPreUptoRow, standIns := [], harness := (true, "5ee9675acd87cb467f9ec2c932cbbdb2c988b68b70614d966efca935a72818b2"), looks := true }, kinds := [], alts := [], laidByText := true, laidKinds := [.data, .data, .data, .data, .sentinel, .sentinel, .pinned], laidTests := true, laidLooks := .later }
def SemverPreUptoCardSaid : Prop := Claim7.holds Tryd.pinned (.plain (OpenSpec.upto semverPreSpec)) semverPreUptoCard
end Rows
end Go.Proofs.YtppcjlokimappaaDoor
