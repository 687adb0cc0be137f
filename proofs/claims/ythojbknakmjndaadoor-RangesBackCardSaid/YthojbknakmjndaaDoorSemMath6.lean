/- Versions in plain Lean: the order of versions. -/
import Derived.Test.YthojbknakmjndaaDoorSemMath5
namespace Go
def cmp3 (a b c a' b' c' : Int) : Int := or2 (ord a a') (or2 (ord b b') (ord c c'))
def lcmp : List (List UInt8) → List (List UInt8) → Int
  | [], [] => 0
  | [], _ :: _ => -1
  | _ :: _, [] => 1
  | x :: xs, y :: ys => or2 (partsCmp x y) (lcmp xs ys)
def cmpPre (p q : List UInt8) : Int := if p.isEmpty then (if q.isEmpty then 0 else 1) else if q.isEmpty then -1 else lcmp (Sem4.dots p) (Sem4.dots q)
def cmpV (a b c : Int) (p : List UInt8) (a' b' c' : Int) (p' : List UInt8) : Int := or2 (cmp3 a b c a' b' c') (cmpPre p p')
theorem or2_ne {a : Int} (h : a ≠ 0) (b : Int) : or2 a b = a := by unfold or2; rw [if_neg h]
theorem or2_zero (b : Int) : or2 0 b = b := rfl
theorem lcmp_step {xs ys : List (List UInt8)} {k : Nat} (hx : k < xs.length) (hy : k < ys.length) : lcmp (xs.drop k) (ys.drop k) = or2 (partsCmp xs[k] ys[k]) (lcmp (xs.drop (k + 1)) (ys.drop (k + 1))) := by
  rw [List.drop_eq_getElem_cons hx, List.drop_eq_getElem_cons hy, lcmp]
theorem lcmp_end {xs ys : List (List UInt8)} {k : Nat} (hx : k ≤ xs.length) (hy : k ≤ ys.length) (h : k = xs.length ∨ k = ys.length) : lcmp (xs.drop k) (ys.drop k) = ord (xs.length : Int) (ys.length : Int) := by
  rcases Nat.lt_trichotomy xs.length ys.length with h1 | h1 | h1
  · obtain rfl : k = xs.length := by omega
    rw [List.drop_length, List.drop_eq_getElem_cons h1, lcmp, ord_lt (by omega)]
  · obtain rfl : k = xs.length := by omega
    rw [List.drop_length, h1, List.drop_length, lcmp, ord_eq]
  · obtain rfl : k = ys.length := by omega
    rw [List.drop_length, List.drop_eq_getElem_cons h1, lcmp, ord_gt (by omega)]
end Go
