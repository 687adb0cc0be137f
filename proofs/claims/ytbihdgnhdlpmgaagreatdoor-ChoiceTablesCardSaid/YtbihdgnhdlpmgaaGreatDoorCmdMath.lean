/- Commands in plain Lean: words, what arguments must be. -/
import Derived.Test.YtbihdgnhdlpmgaaGreatDoorLexMath
import Derived.Test.YtbihdgnhdlpmgaaGreatDoorRanMath
namespace Go
/-- is a text a version's? -/
noncomputable def isVer (l : List UInt8) : Bool := @decide (∃ v : V4, v.IsShow l) (Classical.propDecidable _)
theorem isVer_true {l : List UInt8} : isVer l = true ↔ ∃ v : V4, v.IsShow l := by unfold isVer; exact @decide_eq_true_iff _ (Classical.propDecidable _)
theorem isVer_parse {l : List UInt8} {a b c : Int} {p : List UInt8} {er : Int} (h : ParseIs l a b c p er) : (er = 0 ∧ isVer l = true) ∨ (er = 40 ∧ isVer l = false) := by
  rcases h with ⟨h, hs⟩ | ⟨h, _, _, _, _, hn⟩
  · exact .inl ⟨h, isVer_true.2 ⟨⟨a, b, c, S p⟩, hs.1, hs.2⟩⟩
  · refine .inr ⟨h, ?_⟩
    rw [Bool.eq_false_iff]
    intro ht
    obtain ⟨v, hv⟩ := isVer_true.1 ht
    exact hn _ _ _ _ ⟨hv.1, hv.2⟩
def stepsOk (l : List UInt8) : Bool := decide (1 ≤ l.length) && decide (l.length ≤ 7) && l.all Sem4.isDig && (decide (l = [48]) || decide (l.head? ≠ some 48))
noncomputable def fitsB (l : List UInt8) (kind : UInt8) : Bool := if kind = 110 then nameOk l else if kind = 118 then isVer l else stepsOk l
noncomputable def allFit : List (List UInt8) → List UInt8 → Bool
  | [], [] => true
  | a :: as, k :: ks => fitsB a k && allFit as ks
  | _, _ => false
def wRegister : List UInt8 := [114, 101, 103, 105, 115, 116, 101, 114]
def wPublish : List UInt8 := [112, 117, 98, 108, 105, 115, 104]
def wYank : List UInt8 := [121, 97, 110, 107]
def wUnyank : List UInt8 := [117, 110, 121, 97, 110, 107]
def wDeprecate : List UInt8 := [100, 101, 112, 114, 101, 99, 97, 116, 101]
def wQuery : List UInt8 := [113, 117, 101, 114, 121]
def wDiff : List UInt8 := [100, 105, 102, 102]
def wResolve : List UInt8 := [114, 101, 115, 111, 108, 118, 101]
def wRecheck : List UInt8 := [114, 101, 99, 104, 101, 99, 107]
/-- the program's table: word, kinds, body -/
def forms : List (List UInt8 × List UInt8 × Bool) := [(wRegister, [110, 110], false), (wPublish, [110, 118], true), (wYank, [110, 110, 118], false), (wUnyank, [110, 110, 118], false), (wDeprecate, [110, 110, 118], true), (wQuery, [110], false), (wQuery, [110, 118], false), (wDiff, [110, 118, 118], false), (wResolve, [115], true), (wRecheck, [110, 118, 110, 118], false)]
noncomputable def formFits (word : List UInt8) (args : List (List UInt8)) (f : List UInt8 × List UInt8 × Bool) : Bool := decide (f.1 = word) && allFit args f.2.1
/-- the first form that fits -/
noncomputable def knownB (word : List UInt8) (args : List (List UInt8)) : Option Bool := (forms.find? (formFits word args)).map fun f => f.2.2
/-- the reference's -/
def kindsOf (word : List UInt8) (n : Nat) : Option (List UInt8) :=
  if word = wRegister then (if n = 2 then some [110, 110] else none)
  else if word = wPublish then (if n = 2 then some [110, 118] else none)
  else if word = wYank ∨ word = wUnyank ∨ word = wDeprecate then (if n = 3 then some [110, 110, 118] else none)
  else if word = wQuery then (if n = 1 then some [110] else if n = 2 then some [110, 118] else none)
  else if word = wDiff then (if n = 3 then some [110, 118, 118] else none)
  else if word = wResolve then (if n = 1 then some [115] else none)
  else if word = wRecheck then (if n = 4 then some [110, 118, 110, 118] else none)
  else none
noncomputable def rightB (word : List UInt8) (args : List (List UInt8)) : Bool :=
  match kindsOf word args.length with
  | some ks => allFit args ks
  | none => false
def hasBody (word : List UInt8) : Bool := decide (word = wPublish) || decide (word = wDeprecate) || decide (word = wResolve)
theorem allFit_len : ∀ {as : List (List UInt8)} {ks : List UInt8}, as.length ≠ ks.length → allFit as ks = false
  | [], [], h => absurd rfl h
  | [], _ :: _, _ => rfl
  | _ :: _, [], _ => rfl
  | a :: as, k :: ks, h => by
    have : as.length ≠ ks.length := by simpa using h
    rw [allFit, allFit_len this, Bool.and_false]
end Go
