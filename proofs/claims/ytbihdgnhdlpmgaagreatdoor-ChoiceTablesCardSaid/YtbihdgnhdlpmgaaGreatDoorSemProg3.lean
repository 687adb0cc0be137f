/- The program's versions: Parse: a walk. -/
import Derived.Test.YtbihdgnhdlpmgaaGreatDoorSemProg2
import Derived.Test.YtbihdgnhdlpmgaaGreatDoorCells
namespace Go.Proofs.YtbihdgnhdlpmgaaGreatDoor
open Go.RowKit
def PRelP (ls : List (List UInt8)) (w w3 : World) (B8 : Nat) (i : Value) (wr : World) : Prop :=
  ∃ k : Nat, k ≤ 3 ∧ i = .int .i64 (k : Int) ∧ (∀ j, j < k → okNum (ls.getD j []) = true) ∧
    (∀ j, j < 3 → wr.cell? ⟨B8, j, none⟩ = some (.int .i64 ((if j < k then dfold (ls.getD j []) else 0 : Nat) : Int))) ∧ (∀ j, j < 3 → wr.frozen? ⟨B8, j, none⟩ = false) ∧
    Below (w.heap.size + 1) (w.alloc (.cells #[.int .i64 0, .int .i64 0, .int .i64 0, .string ⟨#[]⟩] 46)) wr ∧ Below w3.heap.size w3 wr ∧ B8 < wr.heap.size
theorem checkP_as (a b c : Int) (p : ByteArray) (r : Int) (h : verErr a b c p.data.toList = r) (w : World) (hE : Env w) (hs : p.size ≤ 9223372036854775807) :
    Calls Tryz.prog 21 #[.agg #[.int .i64 a, .int .i64 b, .int .i64 c, .string p]] w fun e w' => e = .returned (.int .i64 r) ∧ Below w.heap.size w w' := by
  subst h; exact check_any a b c p w hE hs
end Go.Proofs.YtbihdgnhdlpmgaaGreatDoor
