/- Texts in plain Lean: a text at a byte, and put together again. -/
import Derived.Test.YtllkiedikjgkbaaGreatDoorBase
import Derived.Lib.SplitLaws
import Derived.Lib.IndexBytes
namespace Go
/-- a text at each c -/
def sepAt (c : UInt8) : List UInt8 → List (List UInt8)
  | [] => [[]]
  | x :: l => if x = c then [] :: sepAt c l else match sepAt c l with
    | [] => [[x]]
    | p :: ps => (x :: p) :: ps
theorem sepAt_none {c : UInt8} {l : List UInt8} (h : ∀ x ∈ l, x ≠ c) : sepAt c l = [l] := by
  induction l with
  | nil => rfl
  | cons x l ih => rw [sepAt, if_neg (h x (by simp)), ih (fun y hy => h y (by simp [hy]))]
theorem sepAt_app {c : UInt8} {l : List UInt8} (y : List UInt8) (h : ∀ x ∈ l, x ≠ c) : sepAt c (l ++ c :: y) = l :: sepAt c y := by
  induction l with
  | nil => simp [sepAt]
  | cons x l ih => rw [List.cons_append, sepAt, if_neg (h x (by simp)), ih (fun z hz => h z (by simp [hz]))]
/-- pieces with c between -/
def joinAt (c : UInt8) : List (List UInt8) → List UInt8
  | [] => []
  | [p] => p
  | p :: q :: r => p ++ c :: joinAt c (q :: r)
theorem sepAt_join {c : UInt8} : ∀ {ls : List (List UInt8)}, ls ≠ [] → (∀ p ∈ ls, ∀ x ∈ p, x ≠ c) → sepAt c (joinAt c ls) = ls
  | [], h, _ => absurd rfl h
  | [p], _, h => by rw [joinAt]; exact sepAt_none (h p (by simp))
  | p :: q :: r, _, h => by
    rw [joinAt, sepAt_app _ (h p (by simp)), sepAt_join (by simp) (fun z hz => h z (by simp at hz ⊢; right; exact hz))]
end Go
