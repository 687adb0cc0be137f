/- Versions in plain Lean: texts of digits, parts, the text at its dots. -/
import GoSem.Core.Utf8
namespace Sem4
def isDig (c : UInt8) : Bool := decide (48 ≤ c.toNat) && decide (c.toNat ≤ 57)
def digits (l : List UInt8) : Bool := !l.isEmpty && l.all isDig
def partCh (c : UInt8) : Bool := isDig c || (decide (97 ≤ c.toNat) && decide (c.toNat ≤ 122)) || (decide (65 ≤ c.toNat) && decide (c.toNat ≤ 90)) || decide (c.toNat = 45)
def part (l : List UInt8) : Bool := !l.isEmpty && l.all partCh && (!digits l || decide (l = [48]) || decide (l.head? ≠ some 48))
/-- a text at its dots -/
def dots : List UInt8 → List (List UInt8)
  | [] => [[]]
  | c :: l => if c = 46 then [] :: dots l else match dots l with
    | [] => [[c]]
    | p :: ps => (c :: p) :: ps
theorem dots_ne (l : List UInt8) : dots l ≠ [] := by
  induction l with
  | nil => simp [dots]
  | cons c l ih => unfold dots; split; · simp
                   split <;> simp
/-- with one more byte behind -/
def dotSnoc (ps : List (List UInt8)) (c : UInt8) : List (List UInt8) := if c = 46 then ps ++ [[]] else ps.dropLast ++ [(ps.getLastD []) ++ [c]]
theorem dots_snoc (l : List UInt8) (c : UInt8) : dots (l ++ [c]) = dotSnoc (dots l) c := by
  induction l with
  | nil =>
    by_cases h : c = 46
    · subst h; rfl
    · simp [dots, dotSnoc, h]
  | cons x l ih =>
    rw [List.cons_append]
    by_cases hx : x = 46
    · subst hx
      rw [dots, if_pos rfl, dots, if_pos rfl, ih]
      unfold dotSnoc
      split
      · simp
      · have := dots_ne l
        cases hd : dots l with
        | nil => exact absurd hd this
        | cons p ps => simp
    · rw [dots, if_neg hx, ih, dots, if_neg hx]
      cases hd : dots l with
      | nil => exact absurd hd (dots_ne l)
      | cons p ps =>
        by_cases hc : c = 46
        · simp [dotSnoc, hc]
        · cases ps with
          | nil => simp [dotSnoc, hc]
          | cons q qs => simp [dotSnoc, hc]
end Sem4
