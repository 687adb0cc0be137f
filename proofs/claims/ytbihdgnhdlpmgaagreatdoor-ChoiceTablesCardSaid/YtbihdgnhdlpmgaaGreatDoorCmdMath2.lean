/- The program's table of commands tells what the reference's does. -/
import Derived.Test.YtbihdgnhdlpmgaaGreatDoorCmdMath
namespace Go
theorem find_form {α : Type} (f : α → Bool) (x : α) (xs : List α) : (x :: xs).find? f = if f x then some x else xs.find? f := by
  rw [List.find?_cons]; cases f x <;> rfl
theorem not_known {word : List UInt8} (args : List (List UInt8)) (h : ∀ f ∈ forms, f.1 ≠ word) : knownB word args = none := by
  unfold knownB
  have : forms.find? (formFits word args) = none := by
    rw [List.find?_eq_none]
    intro f hf
    unfold formFits
    rw [decide_eq_false (h f hf)]; simp
  rw [this]; rfl
theorem known_right (word : List UInt8) (args : List (List UInt8)) : knownB word args = if rightB word args then some (hasBody word) else none := by
  by_cases h1 : word = wRegister
  · subst h1
    by_cases hn : args.length = 2
    · simp [knownB, rightB, kindsOf, hasBody, forms, find_form, formFits, hn, wRegister, wPublish, wYank, wUnyank, wDeprecate, wQuery, wDiff, wResolve, wRecheck]
    · have e : allFit args [110, 110] = false := allFit_len hn
      simp [knownB, rightB, kindsOf, forms, formFits, hn, e, wRegister, wPublish, wYank, wUnyank, wDeprecate, wQuery, wDiff, wResolve, wRecheck]
  by_cases h2 : word = wPublish
  · subst h2
    by_cases hn : args.length = 2
    · simp [knownB, rightB, kindsOf, hasBody, forms, find_form, formFits, hn, wRegister, wPublish, wYank, wUnyank, wDeprecate, wQuery, wDiff, wResolve, wRecheck]
    · have e : allFit args [110, 118] = false := allFit_len hn
      simp [knownB, rightB, kindsOf, forms, formFits, hn, e, wRegister, wPublish, wYank, wUnyank, wDeprecate, wQuery, wDiff, wResolve, wRecheck]
  by_cases h3 : word = wYank ∨ word = wUnyank ∨ word = wDeprecate
  · have h6 : word ≠ wQuery := by rintro rfl; revert h3; decide
    rcases h3 with rfl | rfl | rfl
    all_goals
      by_cases hn : args.length = 3
      · simp [knownB, rightB, kindsOf, hasBody, forms, find_form, formFits, hn, wRegister, wPublish, wYank, wUnyank, wDeprecate, wQuery, wDiff, wResolve, wRecheck]
      · have e : allFit args [110, 110, 118] = false := allFit_len hn
        simp [knownB, rightB, kindsOf, forms, formFits, hn, e, wRegister, wPublish, wYank, wUnyank, wDeprecate, wQuery, wDiff, wResolve, wRecheck]
  by_cases h4 : word = wQuery
  · subst h4
    by_cases hn : args.length = 1
    · have e : allFit args [110, 118] = false := allFit_len (by rw [hn]; decide)
      simp [knownB, rightB, kindsOf, hasBody, forms, find_form, formFits, hn, e, wRegister, wPublish, wYank, wUnyank, wDeprecate, wQuery, wDiff, wResolve, wRecheck]
    · have e : allFit args [110] = false := allFit_len hn
      by_cases hn2 : args.length = 2
      · simp [knownB, rightB, kindsOf, hasBody, forms, find_form, formFits, hn2, e, wRegister, wPublish, wYank, wUnyank, wDeprecate, wQuery, wDiff, wResolve, wRecheck]
      · have e2 : allFit args [110, 118] = false := allFit_len hn2
        simp [knownB, rightB, kindsOf, forms, formFits, hn, hn2, e, e2, wRegister, wPublish, wYank, wUnyank, wDeprecate, wQuery, wDiff, wResolve, wRecheck]
  by_cases h5 : word = wDiff
  · subst h5
    by_cases hn : args.length = 3
    · simp [knownB, rightB, kindsOf, hasBody, forms, find_form, formFits, hn, wRegister, wPublish, wYank, wUnyank, wDeprecate, wQuery, wDiff, wResolve, wRecheck]
    · have e : allFit args [110, 118, 118] = false := allFit_len hn
      simp [knownB, rightB, kindsOf, forms, formFits, hn, e, wRegister, wPublish, wYank, wUnyank, wDeprecate, wQuery, wDiff, wResolve, wRecheck]
  by_cases h6 : word = wResolve
  · subst h6
    by_cases hn : args.length = 1
    · simp [knownB, rightB, kindsOf, hasBody, forms, find_form, formFits, hn, wRegister, wPublish, wYank, wUnyank, wDeprecate, wQuery, wDiff, wResolve, wRecheck]
    · have e : allFit args [115] = false := allFit_len hn
      simp [knownB, rightB, kindsOf, forms, formFits, hn, e, wRegister, wPublish, wYank, wUnyank, wDeprecate, wQuery, wDiff, wResolve, wRecheck]
  by_cases h7 : word = wRecheck
  · subst h7
    by_cases hn : args.length = 4
    · simp [knownB, rightB, kindsOf, hasBody, forms, find_form, formFits, hn, wRegister, wPublish, wYank, wUnyank, wDeprecate, wQuery, wDiff, wResolve, wRecheck]
    · have e : allFit args [110, 118, 110, 118] = false := allFit_len hn
      simp [knownB, rightB, kindsOf, forms, formFits, hn, e, wRegister, wPublish, wYank, wUnyank, wDeprecate, wQuery, wDiff, wResolve, wRecheck]
  have h31 : word ≠ wYank := fun e => h3 (.inl e)
  have h32 : word ≠ wUnyank := fun e => h3 (.inr (.inl e))
  have h33 : word ≠ wDeprecate := fun e => h3 (.inr (.inr e))
  have e1 : knownB word args = none := not_known args (by
    intro f hf
    unfold forms at hf
    simp only [List.mem_cons, List.not_mem_nil, or_false] at hf
    rcases hf with rfl | rfl | rfl | rfl | rfl | rfl | rfl | rfl | rfl | rfl
    · exact fun e => h1 e.symm
    · exact fun e => h2 e.symm
    · exact fun e => h31 e.symm
    · exact fun e => h32 e.symm
    · exact fun e => h33 e.symm
    · exact fun e => h4 e.symm
    · exact fun e => h4 e.symm
    · exact fun e => h5 e.symm
    · exact fun e => h6 e.symm
    · exact fun e => h7 e.symm)
  have e2 : rightB word args = false := by
    unfold rightB kindsOf
    rw [if_neg h1, if_neg h2, if_neg h3, if_neg h4, if_neg h5, if_neg h6, if_neg h7]
  rw [e1, e2]; rfl
end Go
