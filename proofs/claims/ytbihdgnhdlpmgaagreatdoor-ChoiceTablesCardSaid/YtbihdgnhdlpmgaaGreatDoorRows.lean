/-
  NARROWER THAN 'FOR EVERY INPUT', by the rows' own cells (each row's printed sentence says how): ChoiceOffers: laid · ChoiceTables: laid · ChoiceCounts: laid · ChoiceReach: laid · ChoiceOrder: laid · ChoiceLess: laid.
  DERIVED. THE GIVEN ROWS OF THIS SEAT. 6 by the template 'for every input the law returns true; each argument reads behind the call as it read before'; 0 by the template 'total and deterministic' (their statements: YtbihdgnhdlpmgaaGreatDoorTotals.lean).
  GIVEN WITH THE SEED: the statements are not yours to turn. If you find one false, say at which input.
  Laid BY PROGRAM, IN A SANDBOX (cutbox-rows.mjs): the forced cells as the released guide's own fill.sh prints them over the translation 586cc12283b1e8bd… (all of the seat's roots in one cut). By AI agents, Wed Nov 11 2026. No macro, syntax, notation, axiom, sorry.
-/
import Derived.Test.YtbihdgnhdlpmgaaGreatDoorChecked
import GoSem.PinnedTables
import GoSem.Claim
import GoSem.ClaimJoined
import GoSem.ClaimMapViews
import Derived.JoinedTies
import Derived.KernelRfl
namespace Go.Proofs.YtbihdgnhdlpmgaaGreatDoor
/- THE CELL 'sum', in the pinned program and in every row, IS THE sha256 OF THE DUMP (.gsa) THAT YtbihdgnhdlpmgaaGreatDoorProg.lean LOADS. Nothing in Lean hashes anything: it is a label: what it is worth is what the hold of that sum in a sandbox is worth. -/
noncomputable def Tryz.pinned : Pinned := { name := "ytbihdgnhdlpmgaagreatdoor", sum := "586cc12283b1e8bdc913f1dd86b25c482b51497a9fb9a307fbca500fcd644ccb", checked := Tryz.checked }
namespace Rows
def none {H : Type} : Left H := { results := [], args := [] }

/- WHAT THE LISTED PACKAGE-LEVEL VARIABLES READ AS WHEN THE CALL BEGINS. Each datum BY PROGRAM (the guide's laid-datum.mjs) off the statement by which the dump's own 'gosem.cut.vars' lays the variable. In a bare row this is a premise. The card (YtbihdgnhdlpmgaaGreatDoorCards.lean) ties it to the program's text. -/
def laid_unicode_utf8_acceptRanges {H : Type} : DataW H := .agg [.agg [.lit (.int .u8 128), .lit (.int .u8 191)], .agg [.lit (.int .u8 160), .lit (.int .u8 191)], .agg [.lit (.int .u8 128), .lit (.int .u8 159)], .agg [.lit (.int .u8 144), .lit (.int .u8 191)], .agg [.lit (.int .u8 128), .lit (.int .u8 143)], .agg [.lit (.int .u8 0), .lit (.int .u8 0)], .agg [.lit (.int .u8 0), .lit (.int .u8 0)], .agg [.lit (.int .u8 0), .lit (.int .u8 0)], .agg [.lit (.int .u8 0), .lit (.int .u8 0)], .agg [.lit (.int .u8 0), .lit (.int .u8 0)], .agg [.lit (.int .u8 0), .lit (.int .u8 0)], .agg [.lit (.int .u8 0), .lit (.int .u8 0)], .agg [.lit (.int .u8 0), .lit (.int .u8 0)], .agg [.lit (.int .u8 0), .lit (.int .u8 0)], .agg [.lit (.int .u8 0), .lit (.int .u8 0)], .agg [.lit (.int .u8 0), .lit (.int .u8 0)]]
/-- One of Go's own tables, pinned by name: the form's constant. -/
def laid_unicode_utf8_first : DataW Unit := Go.Pinned.utf8First

/-- 'pandectlaw24.ChoiceOffers': WHATEVER THE INPUT: true; the input reads as it did. -/
def choiceOffersSpec : ChangeSpec := { name := "choiceOffers", fn := fun _ => fun
  | [d1, d2, d3] => { results := [.lit (.bool true)], args := [d1, d2, d3] }
  | _ => none }
def choiceOffersRow : OpenClaim := { program := "ytbihdgnhdlpmgaagreatdoor", sum := "586cc12283b1e8bdc913f1dd86b25c482b51497a9fb9a307fbca500fcd644ccb", func := "pandect/pandectlaw24.ChoiceOffers", spec := "choiceOffers", inPlace := ["internal/bytealg.CountString", "internal/bytealg.IndexByteString", "internal/bytealg.IndexString", "internal/bytealg.abigen_runtime_cmpstring"], unfollowed := true, recurses := true, named := ["unicode/utf8.first", "unicode/utf8.acceptRanges", "internal/bytealg.MaxLen"], apart := false, laid := [("unicode/utf8.acceptRanges", laid_unicode_utf8_acceptRanges), ("unicode/utf8.first", laid_unicode_utf8_first)] }
def ChoiceOffersSaid : Prop := choiceOffersRow.holds Tryz.pinned (OpenSpec.ofChange choiceOffersSpec)

/-- ITS FALSE NEIGHBOUR: 'it returns false'. Refute it at one input. -/
def choiceOffersWrong : ChangeSpec := { name := "choiceOffers", fn := fun _ => fun
  | [d1, d2, d3] => { results := [.lit (.bool false)], args := [d1, d2, d3] }
  | _ => none }
def ChoiceOffersWrongFalsely : Prop := choiceOffersRow.holds Tryz.pinned (OpenSpec.ofChange choiceOffersWrong)

/-- 'pandectlaw24.ChoiceTables': WHATEVER THE INPUT: true; the input reads as it did. -/
def choiceTablesSpec : ChangeSpec := { name := "choiceTables", fn := fun _ => fun
  | [d] => { results := [.lit (.bool true)], args := [d] }
  | _ => none }
def choiceTablesRow : OpenClaim := { program := "ytbihdgnhdlpmgaagreatdoor", sum := "586cc12283b1e8bdc913f1dd86b25c482b51497a9fb9a307fbca500fcd644ccb", func := "pandect/pandectlaw24.ChoiceTables", spec := "choiceTables", inPlace := ["internal/bytealg.CountString", "internal/bytealg.IndexByteString", "internal/bytealg.IndexString", "internal/bytealg.abigen_runtime_cmpstring"], unfollowed := true, recurses := true, named := ["unicode/utf8.first", "unicode/utf8.acceptRanges", "internal/bytealg.MaxLen"], apart := false, laid := [("unicode/utf8.acceptRanges", laid_unicode_utf8_acceptRanges), ("unicode/utf8.first", laid_unicode_utf8_first)] }
def ChoiceTablesSaid : Prop := choiceTablesRow.holds Tryz.pinned (OpenSpec.ofChange choiceTablesSpec)

/-- ITS FALSE NEIGHBOUR: 'it returns false'. Refute it at one input. -/
def choiceTablesWrong : ChangeSpec := { name := "choiceTables", fn := fun _ => fun
  | [d] => { results := [.lit (.bool false)], args := [d] }
  | _ => none }
def ChoiceTablesWrongFalsely : Prop := choiceTablesRow.holds Tryz.pinned (OpenSpec.ofChange choiceTablesWrong)

/-- 'pandectlaw24.ChoiceCounts': WHATEVER THE INPUT: true; the input reads as it did. -/
def choiceCountsSpec : ChangeSpec := { name := "choiceCounts", fn := fun _ => fun
  | [d1, d2, d3] => { results := [.lit (.bool true)], args := [d1, d2, d3] }
  | _ => none }
def choiceCountsRow : OpenClaim := { program := "ytbihdgnhdlpmgaagreatdoor", sum := "586cc12283b1e8bdc913f1dd86b25c482b51497a9fb9a307fbca500fcd644ccb", func := "pandect/pandectlaw24.ChoiceCounts", spec := "choiceCounts", inPlace := ["internal/bytealg.CountString", "internal/bytealg.IndexByteString", "internal/bytealg.IndexString", "internal/bytealg.abigen_runtime_cmpstring"], unfollowed := true, recurses := true, named := ["unicode/utf8.first", "unicode/utf8.acceptRanges", "internal/bytealg.MaxLen"], apart := false, laid := [("unicode/utf8.acceptRanges", laid_unicode_utf8_acceptRanges), ("unicode/utf8.first", laid_unicode_utf8_first)] }
def ChoiceCountsSaid : Prop := choiceCountsRow.holds Tryz.pinned (OpenSpec.ofChange choiceCountsSpec)

/-- ITS FALSE NEIGHBOUR: 'it returns false'. Refute it at one input. -/
def choiceCountsWrong : ChangeSpec := { name := "choiceCounts", fn := fun _ => fun
  | [d1, d2, d3] => { results := [.lit (.bool false)], args := [d1, d2, d3] }
  | _ => none }
def ChoiceCountsWrongFalsely : Prop := choiceCountsRow.holds Tryz.pinned (OpenSpec.ofChange choiceCountsWrong)

/-- 'pandectlaw24.ChoiceReach': WHATEVER THE INPUT: true; the input reads as it did. -/
def choiceReachSpec : ChangeSpec := { name := "choiceReach", fn := fun _ => fun
  | [d1, d2] => { results := [.lit (.bool true)], args := [d1, d2] }
  | _ => none }
def choiceReachRow : OpenClaim := { program := "ytbihdgnhdlpmgaagreatdoor", sum := "586cc12283b1e8bdc913f1dd86b25c482b51497a9fb9a307fbca500fcd644ccb", func := "pandect/pandectlaw24.ChoiceReach", spec := "choiceReach", inPlace := ["internal/bytealg.CountString", "internal/bytealg.IndexByteString", "internal/bytealg.IndexString", "internal/bytealg.abigen_runtime_cmpstring"], unfollowed := true, recurses := true, named := ["unicode/utf8.first", "unicode/utf8.acceptRanges", "internal/bytealg.MaxLen"], apart := false, laid := [("unicode/utf8.acceptRanges", laid_unicode_utf8_acceptRanges), ("unicode/utf8.first", laid_unicode_utf8_first)] }
def ChoiceReachSaid : Prop := choiceReachRow.holds Tryz.pinned (OpenSpec.ofChange choiceReachSpec)

/-- ITS FALSE NEIGHBOUR: 'it returns false'. Refute it at one input. -/
def choiceReachWrong : ChangeSpec := { name := "choiceReach", fn := fun _ => fun
  | [d1, d2] => { results := [.lit (.bool false)], args := [d1, d2] }
  | _ => none }
def ChoiceReachWrongFalsely : Prop := choiceReachRow.holds Tryz.pinned (OpenSpec.ofChange choiceReachWrong)

/-- 'pandectlaw24.ChoiceOrder': WHATEVER THE INPUT: true; the input reads as it did. -/
def choiceOrderSpec : ChangeSpec := { name := "choiceOrder", fn := fun _ => fun
  | [d1, d2, d3] => { results := [.lit (.bool true)], args := [d1, d2, d3] }
  | _ => none }
def choiceOrderRow : OpenClaim := { program := "ytbihdgnhdlpmgaagreatdoor", sum := "586cc12283b1e8bdc913f1dd86b25c482b51497a9fb9a307fbca500fcd644ccb", func := "pandect/pandectlaw24.ChoiceOrder", spec := "choiceOrder", inPlace := ["internal/bytealg.CountString", "internal/bytealg.IndexByteString", "internal/bytealg.IndexString", "internal/bytealg.abigen_runtime_cmpstring"], unfollowed := true, recurses := true, named := ["unicode/utf8.first", "unicode/utf8.acceptRanges", "internal/bytealg.MaxLen"], apart := false, laid := [("unicode/utf8.acceptRanges", laid_unicode_utf8_acceptRanges), ("unicode/utf8.first", laid_unicode_utf8_first)] }
def ChoiceOrderSaid : Prop := choiceOrderRow.holds Tryz.pinned (OpenSpec.ofChange choiceOrderSpec)

/-- ITS FALSE NEIGHBOUR: 'it returns false'. Refute it at one input. -/
def choiceOrderWrong : ChangeSpec := { name := "choiceOrder", fn := fun _ => fun
  | [d1, d2, d3] => { results := [.lit (.bool false)], args := [d1, d2, d3] }
  | _ => none }
def ChoiceOrderWrongFalsely : Prop := choiceOrderRow.holds Tryz.pinned (OpenSpec.ofChange choiceOrderWrong)

/-- 'pandectlaw24.ChoiceLess': WHATEVER THE INPUT: true; the input reads as it did. -/
def choiceLessSpec : ChangeSpec := { name := "choiceLess", fn := fun _ => fun
  | [d1, d2, d3] => { results := [.lit (.bool true)], args := [d1, d2, d3] }
  | _ => none }
def choiceLessRow : OpenClaim := { program := "ytbihdgnhdlpmgaagreatdoor", sum := "586cc12283b1e8bdc913f1dd86b25c482b51497a9fb9a307fbca500fcd644ccb", func := "pandect/pandectlaw24.ChoiceLess", spec := "choiceLess", inPlace := ["internal/bytealg.CountString", "internal/bytealg.IndexByteString", "internal/bytealg.IndexString", "internal/bytealg.abigen_runtime_cmpstring"], unfollowed := true, recurses := true, named := ["unicode/utf8.first", "unicode/utf8.acceptRanges", "internal/bytealg.MaxLen"], apart := false, laid := [("unicode/utf8.acceptRanges", laid_unicode_utf8_acceptRanges), ("unicode/utf8.first", laid_unicode_utf8_first)] }
def ChoiceLessSaid : Prop := choiceLessRow.holds Tryz.pinned (OpenSpec.ofChange choiceLessSpec)

/-- ITS FALSE NEIGHBOUR: 'it returns false'. Refute it at one input. -/
def choiceLessWrong : ChangeSpec := { name := "choiceLess", fn := fun _ => fun
  | [d1, d2, d3] => { results := [.lit (.bool false)], args := [d1, d2, d3] }
  | _ => none }
def ChoiceLessWrongFalsely : Prop := choiceLessRow.holds Tryz.pinned (OpenSpec.ofChange choiceLessWrong)

/- THE SECOND FORM. 'bulk': how many values and letters a reading holds, each counted each time it is reached (what is shared counts as often as it is met; a slice's spare places count too). A statement '..UptoSaid' is the law's where the arguments, and the package variables that the reading takes, are together of bulk at most 1048576: NARROWER than '..Said'. Prove '..Said' where nothing that the law and all that it calls make is longer than what came in: it says more and counts as full. Else prove '..UptoSaid'. A law counts once. -/
mutual
def uptoBulk {H : Type} : DataW H → Nat
  | .lit (.string bytes) => bytes.length + 1
  | .lit _ => 1
  | .nil => 1
  | .ptr d => uptoBulk d + 1
  | .slice elems spare => uptoBulkAll elems + uptoBulkAll spare + 1
  | .agg parts => uptoBulkAll parts + 1
  | .iface _ d => uptoBulk d + 1
  | .map entries => uptoBulkEntries entries + 1
  | .held _ => 1
def uptoBulkAll {H : Type} : List (DataW H) → Nat
  | [] => 0
  | d :: r => uptoBulk d + uptoBulkAll r
def uptoBulkEntries {H : Type} : List (Lit × DataW H) → Nat
  | [] => 0
  | x :: r => uptoBulkEntry x + uptoBulkEntries r
def uptoBulkEntry {H : Type} : Lit × DataW H → Nat
  | (.string bytes, d) => bytes.length + uptoBulk d + 1
  | (_, d) => uptoBulk d + 1
 end
def uptoSmall : (H : Type) → List (DataW H) → Bool := fun _ ds => decide (uptoBulkAll ds ≤ 1048576)
def OpenSpec.upto (s : _root_.Go.ChangeSpec) : _root_.Go.OpenSpec := { _root_.Go.OpenSpec.ofChange s with cond := some uptoSmall }

/-- 'pandectlaw24.ChoiceOffers', WHERE WHAT IT READS IS OF BULK AT MOST 1048576: true; the input reads as it did. -/
def choiceOffersUptoRow : OpenClaim := { program := "ytbihdgnhdlpmgaagreatdoor", sum := "586cc12283b1e8bdc913f1dd86b25c482b51497a9fb9a307fbca500fcd644ccb", func := "pandect/pandectlaw24.ChoiceOffers", spec := "choiceOffers", inPlace := ["internal/bytealg.CountString", "internal/bytealg.IndexByteString", "internal/bytealg.IndexString", "internal/bytealg.abigen_runtime_cmpstring"], unfollowed := true, recurses := true, named := ["unicode/utf8.first", "unicode/utf8.acceptRanges", "internal/bytealg.MaxLen"], apart := false, laid := [("unicode/utf8.acceptRanges", laid_unicode_utf8_acceptRanges), ("unicode/utf8.first", laid_unicode_utf8_first)], narrowed := true }
def ChoiceOffersUptoSaid : Prop := choiceOffersUptoRow.holds Tryz.pinned (OpenSpec.upto choiceOffersSpec)

/-- 'pandectlaw24.ChoiceTables', WHERE WHAT IT READS IS OF BULK AT MOST 1048576: true; the input reads as it did. -/
def choiceTablesUptoRow : OpenClaim := { program := "ytbihdgnhdlpmgaagreatdoor", sum := "586cc12283b1e8bdc913f1dd86b25c482b51497a9fb9a307fbca500fcd644ccb", func := "pandect/pandectlaw24.ChoiceTables", spec := "choiceTables", inPlace := ["internal/bytealg.CountString", "internal/bytealg.IndexByteString", "internal/bytealg.IndexString", "internal/bytealg.abigen_runtime_cmpstring"], unfollowed := true, recurses := true, named := ["unicode/utf8.first", "unicode/utf8.acceptRanges", "internal/bytealg.MaxLen"], apart := false, laid := [("unicode/utf8.acceptRanges", laid_unicode_utf8_acceptRanges), ("unicode/utf8.first", laid_unicode_utf8_first)], narrowed := true }
def ChoiceTablesUptoSaid : Prop := choiceTablesUptoRow.holds Tryz.pinned (OpenSpec.upto choiceTablesSpec)

/-- 'pandectlaw24.ChoiceCounts', WHERE WHAT IT READS IS OF BULK AT MOST 1048576: true; the input reads as it did. -/
def choiceCountsUptoRow : OpenClaim := { program := "ytbihdgnhdlpmgaagreatdoor", sum := "586cc12283b1e8bdc913f1dd86b25c482b51497a9fb9a307fbca500fcd644ccb", func := "pandect/pandectlaw24.ChoiceCounts", spec := "choiceCounts", inPlace := ["internal/bytealg.CountString", "internal/bytealg.IndexByteString", "internal/bytealg.IndexString", "internal/bytealg.abigen_runtime_cmpstring"], unfollowed := true, recurses := true, named := ["unicode/utf8.first", "unicode/utf8.acceptRanges", "internal/bytealg.MaxLen"], apart := false, laid := [("unicode/utf8.acceptRanges", laid_unicode_utf8_acceptRanges), ("unicode/utf8.first", laid_unicode_utf8_first)], narrowed := true }
def ChoiceCountsUptoSaid : Prop := choiceCountsUptoRow.holds Tryz.pinned (OpenSpec.upto choiceCountsSpec)

/-- 'pandectlaw24.ChoiceReach', WHERE WHAT IT READS IS OF BULK AT MOST 1048576: true; the input reads as it did. -/
def choiceReachUptoRow : OpenClaim := { program := "ytbihdgnhdlpmgaagreatdoor", sum := "586cc12283b1e8bdc913f1dd86b25c482b51497a9fb9a307fbca500fcd644ccb", func := "pandect/pandectlaw24.ChoiceReach", spec := "choiceReach", inPlace := ["internal/bytealg.CountString", "internal/bytealg.IndexByteString", "internal/bytealg.IndexString", "internal/bytealg.abigen_runtime_cmpstring"], unfollowed := true, recurses := true, named := ["unicode/utf8.first", "unicode/utf8.acceptRanges", "internal/bytealg.MaxLen"], apart := false, laid := [("unicode/utf8.acceptRanges", laid_unicode_utf8_acceptRanges), ("unicode/utf8.first", laid_unicode_utf8_first)], narrowed := true }
def ChoiceReachUptoSaid : Prop := choiceReachUptoRow.holds Tryz.pinned (OpenSpec.upto choiceReachSpec)

/-- 'pandectlaw24.ChoiceOrder', WHERE WHAT IT READS IS OF BULK AT MOST 1048576: true; the input reads as it did. -/
def choiceOrderUptoRow : OpenClaim := { program := "ytbihdgnhdlpmgaagreatdoor", sum := "586cc12283b1e8bdc913f1dd86b25c482b51497a9fb9a307fbca500fcd644ccb", func := "pandect/pandectlaw24.ChoiceOrder", spec := "choiceOrder", inPlace := ["internal/bytealg.CountString", "internal/bytealg.IndexByteString", "internal/bytealg.IndexString", "internal/bytealg.abigen_runtime_cmpstring"], unfollowed := true, recurses := true, named := ["unicode/utf8.first", "unicode/utf8.acceptRanges", "internal/bytealg.MaxLen"], apart := false, laid := [("unicode/utf8.acceptRanges", laid_unicode_utf8_acceptRanges), ("unicode/utf8.first", laid_unicode_utf8_first)], narrowed := true }
def ChoiceOrderUptoSaid : Prop := choiceOrderUptoRow.holds Tryz.pinned (OpenSpec.upto choiceOrderSpec)

/-- 'pandectlaw24.ChoiceLess', WHERE WHAT IT READS IS OF BULK AT MOST 1048576: true; the input reads as it did. -/
def choiceLessUptoRow : OpenClaim := { program := "ytbihdgnhdlpmgaagreatdoor", sum := "586cc12283b1e8bdc913f1dd86b25c482b51497a9fb9a307fbca500fcd644ccb", func := "pandect/pandectlaw24.ChoiceLess", spec := "choiceLess", inPlace := ["internal/bytealg.CountString", "internal/bytealg.IndexByteString", "internal/bytealg.IndexString", "internal/bytealg.abigen_runtime_cmpstring"], unfollowed := true, recurses := true, named := ["unicode/utf8.first", "unicode/utf8.acceptRanges", "internal/bytealg.MaxLen"], apart := false, laid := [("unicode/utf8.acceptRanges", laid_unicode_utf8_acceptRanges), ("unicode/utf8.first", laid_unicode_utf8_first)], narrowed := true }
def ChoiceLessUptoSaid : Prop := choiceLessUptoRow.holds Tryz.pinned (OpenSpec.upto choiceLessSpec)

end Rows
end Go.Proofs.YtbihdgnhdlpmgaaGreatDoor
