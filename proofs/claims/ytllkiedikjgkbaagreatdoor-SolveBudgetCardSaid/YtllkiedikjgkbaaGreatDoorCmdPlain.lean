/- Commands in plain Lean: words, what arguments must be. The program's table of commands tells what the reference's does. Commands in plain Lean: a text that is cut at a byte; what a command reads as, how it is written; back and forth. -/
import Derived.Test.YtllkiedikjgkbaaGreatDoorLexMath
import Derived.Test.YtllkiedikjgkbaaGreatDoorRanMath
namespace Go
/-- is a text a version's? -/
noncomputable def isVer (l : List UInt8) : Bool := @decide (∃ v : V4, v.IsShow l) (Classical.propDecidable _)
theorem isVer_true {l : List UInt8} : isVer l = true ↔ ∃ v : V4, v.IsShow l := by unfold isVer; exact @decide_eq_true_iff _ (Classical.propDecidable _)
theorem isVer_parse {l : List UInt8} {a b c : Int} {p : List UInt8} {er : Int} (h : ParseIs l a b c p er) : (er = 0 ∧ isVer l = true) ∨ (er = 40 ∧ isVer l = false) := by
  rcases h with ⟨h, hs⟩ | ⟨h, _, _, _, _, hn⟩
  · exact .inl ⟨h, isVer_true.2 ⟨⟨a, b, c, S p⟩, hs.1, hs.2⟩⟩
  · refine .inr ⟨h, ?_⟩
    rw [Bool.eq_false_iff]
    intro ht
    obtain ⟨v, hv⟩ := isVer_true.1 ht
    exact hn _ _ _ _ ⟨hv.1, hv.2⟩
def stepsOk (l : List UInt8) : Bool := decide (1 ≤ l.length) && decide (l.length ≤ 7) && l.all Sem4.isDig && (decide (l = [48]) || decide (l.head? ≠ some 48))
noncomputable def fitsB (l : List UInt8) (kind : UInt8) : Bool := if kind = 110 then nameOk l else if kind = 118 then isVer l else stepsOk l
noncomputable def allFit : List (List UInt8) → List UInt8 → Bool
  | [], [] => true
  | a :: as, k :: ks => fitsB a k && allFit as ks
  | _, _ => false
def wRegister : List UInt8 := [114, 101, 103, 105, 115, 116, 101, 114]
def wPublish : List UInt8 := [112, 117, 98, 108, 105, 115, 104]
def wYank : List UInt8 := [121, 97, 110, 107]
def wUnyank : List UInt8 := [117, 110, 121, 97, 110, 107]
def wDeprecate : List UInt8 := [100, 101, 112, 114, 101, 99, 97, 116, 101]
def wQuery : List UInt8 := [113, 117, 101, 114, 121]
def wDiff : List UInt8 := [100, 105, 102, 102]
def wResolve : List UInt8 := [114, 101, 115, 111, 108, 118, 101]
def wRecheck : List UInt8 := [114, 101, 99, 104, 101, 99, 107]
/-- the program's table: word, kinds, body -/
def forms : List (List UInt8 × List UInt8 × Bool) := [(wRegister, [110, 110], false), (wPublish, [110, 118], true), (wYank, [110, 110, 118], false), (wUnyank, [110, 110, 118], false), (wDeprecate, [110, 110, 118], true), (wQuery, [110], false), (wQuery, [110, 118], false), (wDiff, [110, 118, 118], false), (wResolve, [115], true), (wRecheck, [110, 118, 110, 118], false)]
noncomputable def formFits (word : List UInt8) (args : List (List UInt8)) (f : List UInt8 × List UInt8 × Bool) : Bool := decide (f.1 = word) && allFit args f.2.1
/-- the first form that fits -/
noncomputable def knownB (word : List UInt8) (args : List (List UInt8)) : Option Bool := (forms.find? (formFits word args)).map fun f => f.2.2
/-- the reference's -/
def kindsOf (word : List UInt8) (n : Nat) : Option (List UInt8) :=
  if word = wRegister then (if n = 2 then some [110, 110] else none)
  else if word = wPublish then (if n = 2 then some [110, 118] else none)
  else if word = wYank ∨ word = wUnyank ∨ word = wDeprecate then (if n = 3 then some [110, 110, 118] else none)
  else if word = wQuery then (if n = 1 then some [110] else if n = 2 then some [110, 118] else none)
  else if word = wDiff then (if n = 3 then some [110, 118, 118] else none)
  else if word = wResolve then (if n = 1 then some [115] else none)
  else if word = wRecheck then (if n = 4 then some [110, 118, 110, 118] else none)
  else none
noncomputable def rightB (word : List UInt8) (args : List (List UInt8)) : Bool :=
  match kindsOf word args.length with
  | some ks => allFit args ks
  | none => false
def hasBody (word : List UInt8) : Bool := decide (word = wPublish) || decide (word = wDeprecate) || decide (word = wResolve)
theorem allFit_len : ∀ {as : List (List UInt8)} {ks : List UInt8}, as.length ≠ ks.length → allFit as ks = false
  | [], [], h => absurd rfl h
  | [], _ :: _, _ => rfl
  | _ :: _, [], _ => rfl
  | a :: as, k :: ks, h => by
    have : as.length ≠ ks.length := by simpa using h
    rw [allFit, allFit_len this, Bool.and_false]
end Go

namespace Go
theorem find_form {α : Type} (f : α → Bool) (x : α) (xs : List α) : (x :: xs).find? f = if f x then some x else xs.find? f := by
  rw [List.find?_cons]; cases f x <;> rfl
theorem not_known {word : List UInt8} (args : List (List UInt8)) (h : ∀ f ∈ forms, f.1 ≠ word) : knownB word args = none := by
  unfold knownB
  have : forms.find? (formFits word args) = none := by
    rw [List.find?_eq_none]
    intro f hf
    unfold formFits
    rw [decide_eq_false (h f hf)]; simp
  rw [this]; rfl
theorem known_right (word : List UInt8) (args : List (List UInt8)) : knownB word args = if rightB word args then some (hasBody word) else none := by
  by_cases h1 : word = wRegister
  · subst h1
    by_cases hn : args.length = 2
    · simp [knownB, rightB, kindsOf, hasBody, forms, find_form, formFits, hn, wRegister, wPublish, wYank, wUnyank, wDeprecate, wQuery, wDiff, wResolve, wRecheck]
    · have e : allFit args [110, 110] = false := allFit_len hn
      simp [knownB, rightB, kindsOf, forms, formFits, hn, e, wRegister, wPublish, wYank, wUnyank, wDeprecate, wQuery, wDiff, wResolve, wRecheck]
  by_cases h2 : word = wPublish
  · subst h2
    by_cases hn : args.length = 2
    · simp [knownB, rightB, kindsOf, hasBody, forms, find_form, formFits, hn, wRegister, wPublish, wYank, wUnyank, wDeprecate, wQuery, wDiff, wResolve, wRecheck]
    · have e : allFit args [110, 118] = false := allFit_len hn
      simp [knownB, rightB, kindsOf, forms, formFits, hn, e, wRegister, wPublish, wYank, wUnyank, wDeprecate, wQuery, wDiff, wResolve, wRecheck]
  by_cases h3 : word = wYank ∨ word = wUnyank ∨ word = wDeprecate
  · have h6 : word ≠ wQuery := by rintro rfl; revert h3; decide
    rcases h3 with rfl | rfl | rfl
    all_goals
      by_cases hn : args.length = 3
      · simp [knownB, rightB, kindsOf, hasBody, forms, find_form, formFits, hn, wRegister, wPublish, wYank, wUnyank, wDeprecate, wQuery, wDiff, wResolve, wRecheck]
      · have e : allFit args [110, 110, 118] = false := allFit_len hn
        simp [knownB, rightB, kindsOf, forms, formFits, hn, e, wRegister, wPublish, wYank, wUnyank, wDeprecate, wQuery, wDiff, wResolve, wRecheck]
  by_cases h4 : word = wQuery
  · subst h4
    by_cases hn : args.length = 1
    · have e : allFit args [110, 118] = false := allFit_len (by rw [hn]; decide)
      simp [knownB, rightB, kindsOf, hasBody, forms, find_form, formFits, hn, e, wRegister, wPublish, wYank, wUnyank, wDeprecate, wQuery, wDiff, wResolve, wRecheck]
    · have e : allFit args [110] = false := allFit_len hn
      by_cases hn2 : args.length = 2
      · simp [knownB, rightB, kindsOf, hasBody, forms, find_form, formFits, hn2, e, wRegister, wPublish, wYank, wUnyank, wDeprecate, wQuery, wDiff, wResolve, wRecheck]
      · have e2 : allFit args [110, 118] = false := allFit_len hn2
        simp [knownB, rightB, kindsOf, forms, formFits, hn, hn2, e, e2, wRegister, wPublish, wYank, wUnyank, wDeprecate, wQuery, wDiff, wResolve, wRecheck]
  by_cases h5 : word = wDiff
  · subst h5
    by_cases hn : args.length = 3
    · simp [knownB, rightB, kindsOf, hasBody, forms, find_form, formFits, hn, wRegister, wPublish, wYank, wUnyank, wDeprecate, wQuery, wDiff, wResolve, wRecheck]
    · have e : allFit args [110, 118, 118] = false := allFit_len hn
      simp [knownB, rightB, kindsOf, forms, formFits, hn, e, wRegister, wPublish, wYank, wUnyank, wDeprecate, wQuery, wDiff, wResolve, wRecheck]
  by_cases h6 : word = wResolve
  · subst h6
    by_cases hn : args.length = 1
    · simp [knownB, rightB, kindsOf, hasBody, forms, find_form, formFits, hn, wRegister, wPublish, wYank, wUnyank, wDeprecate, wQuery, wDiff, wResolve, wRecheck]
    · have e : allFit args [115] = false := allFit_len hn
      simp [knownB, rightB, kindsOf, forms, formFits, hn, e, wRegister, wPublish, wYank, wUnyank, wDeprecate, wQuery, wDiff, wResolve, wRecheck]
  by_cases h7 : word = wRecheck
  · subst h7
    by_cases hn : args.length = 4
    · simp [knownB, rightB, kindsOf, hasBody, forms, find_form, formFits, hn, wRegister, wPublish, wYank, wUnyank, wDeprecate, wQuery, wDiff, wResolve, wRecheck]
    · have e : allFit args [110, 118, 110, 118] = false := allFit_len hn
      simp [knownB, rightB, kindsOf, forms, formFits, hn, e, wRegister, wPublish, wYank, wUnyank, wDeprecate, wQuery, wDiff, wResolve, wRecheck]
  have h31 : word ≠ wYank := fun e => h3 (.inl e)
  have h32 : word ≠ wUnyank := fun e => h3 (.inr (.inl e))
  have h33 : word ≠ wDeprecate := fun e => h3 (.inr (.inr e))
  have e1 : knownB word args = none := not_known args (by
    intro f hf
    unfold forms at hf
    simp only [List.mem_cons, List.not_mem_nil, or_false] at hf
    rcases hf with rfl | rfl | rfl | rfl | rfl | rfl | rfl | rfl | rfl | rfl
    · exact fun e => h1 e.symm
    · exact fun e => h2 e.symm
    · exact fun e => h31 e.symm
    · exact fun e => h32 e.symm
    · exact fun e => h33 e.symm
    · exact fun e => h4 e.symm
    · exact fun e => h4 e.symm
    · exact fun e => h5 e.symm
    · exact fun e => h6 e.symm
    · exact fun e => h7 e.symm)
  have e2 : rightB word args = false := by
    unfold rightB kindsOf
    rw [if_neg h1, if_neg h2, if_neg h3, if_neg h4, if_neg h5, if_neg h6, if_neg h7]
  rw [e1, e2]; rfl
end Go

namespace Go
def notC (c : UInt8) (x : UInt8) : Bool := decide (x ≠ c)
/-- ahead of the first c; behind it; is there one? -/
def headAt (c : UInt8) (l : List UInt8) : List UInt8 := l.takeWhile (notC c)
def tailAt (c : UInt8) (l : List UInt8) : List UInt8 := (l.dropWhile (notC c)).drop 1
def hasAt (c : UInt8) (l : List UInt8) : Bool := l.any fun x => !notC c x
theorem cut_at (c : UInt8) (l : List UInt8) : Lib.cut l [c] = (headAt c l, tailAt c l, hasAt c l) := by
  unfold headAt tailAt hasAt Lib.cut
  induction l with
  | nil => rfl
  | cons a l ih =>
    by_cases ha : a = c
    · subst ha
      simp [notC, Lib.index_one, Lib.indexByte]
    · have hn : notC c a = true := by simp [notC, ha]
      have hb : (a == c) = false := by simpa using ha
      rw [Lib.index_one] at ih ⊢
      rw [Lib.indexByte, hb]
      have hg := Lib.indexByte_ge l c
      rw [List.takeWhile_cons, List.dropWhile_cons, List.any_cons, hn]
      by_cases hi : Lib.indexByte l c = -1
      · rw [hi] at ih ⊢
        simp at ih ⊢
        exact ⟨ih.1, ih.2.1, ih.2.2⟩
      · have h0 : 0 ≤ Lib.indexByte l c := by omega
        have h1 : (Lib.indexByte l c == -1) = false := by simpa using hi
        rw [h1]
        rw [if_pos h0] at ih
        simp only [Bool.false_eq_true, if_false]
        rw [if_pos (by omega)]
        have e : (Lib.indexByte l c + 1).toNat = (Lib.indexByte l c).toNat + 1 := by omega
        rw [e]
        simp at ih ⊢
        refine ⟨ih.1, ?_, ih.2.2⟩
        exact ih.2.1
theorem at_cons_eq (c : UInt8) (l : List UInt8) : headAt c (c :: l) = [] ∧ tailAt c (c :: l) = l ∧ hasAt c (c :: l) = true := by
  simp [headAt, tailAt, hasAt, notC]
theorem at_cons_ne {c a : UInt8} (h : a ≠ c) (l : List UInt8) : headAt c (a :: l) = a :: headAt c l ∧ tailAt c (a :: l) = tailAt c l ∧ hasAt c (a :: l) = hasAt c l := by
  simp [headAt, tailAt, hasAt, notC, h]
theorem at_none {c : UInt8} {l : List UInt8} (h : ∀ x ∈ l, x ≠ c) : headAt c l = l ∧ tailAt c l = [] ∧ hasAt c l = false := by
  induction l with
  | nil => exact ⟨rfl, rfl, rfl⟩
  | cons a l ih =>
    obtain ⟨h1, h2, h3⟩ := ih (fun x hx => h x (by simp [hx]))
    obtain ⟨g1, g2, g3⟩ := at_cons_ne (h a (by simp)) l
    rw [g1, g2, g3, h1, h2, h3]; exact ⟨rfl, rfl, rfl⟩
theorem at_app {c : UInt8} {l : List UInt8} (y : List UInt8) (h : ∀ x ∈ l, x ≠ c) : headAt c (l ++ c :: y) = l ∧ tailAt c (l ++ c :: y) = y ∧ hasAt c (l ++ c :: y) = true := by
  induction l with
  | nil => exact at_cons_eq c y
  | cons a l ih =>
    obtain ⟨h1, h2, h3⟩ := ih (fun x hx => h x (by simp [hx]))
    obtain ⟨g1, g2, g3⟩ := at_cons_ne (h a (by simp)) (l ++ c :: y)
    rw [List.cons_append, g1, g2, g3, h1, h2, h3]; exact ⟨rfl, rfl, rfl⟩
theorem at_back (c : UInt8) (l : List UInt8) : l = headAt c l ++ (if hasAt c l then c :: tailAt c l else []) := by
  induction l with
  | nil => rfl
  | cons a l ih =>
    by_cases h : a = c
    · subst h
      obtain ⟨g1, g2, g3⟩ := at_cons_eq a l
      rw [g1, g2, g3]; rfl
    · obtain ⟨g1, g2, g3⟩ := at_cons_ne h l
      rw [g1, g2, g3, List.cons_append, ← ih]
theorem headAt_no (c : UInt8) (l : List UInt8) : ∀ x ∈ headAt c l, x ≠ c := by
  induction l with
  | nil => intro x hx; cases hx
  | cons a l ih =>
    by_cases h : a = c
    · subst h; rw [(at_cons_eq a l).1]; intro x hx; cases hx
    · rw [(at_cons_ne h l).1]
      intro x hx
      rcases List.mem_cons.1 hx with rfl | hx
      · exact h
      · exact ih x hx
theorem headAt_len (c : UInt8) (l : List UInt8) : (headAt c l).length ≤ l.length := by
  unfold headAt
  exact (List.takeWhile_sublist _).length_le
theorem tailAt_len (c : UInt8) (l : List UInt8) : (tailAt c l).length ≤ l.length := by
  unfold tailAt
  rw [List.length_drop]
  have := (List.dropWhile_sublist (notC c) (l := l)).length_le
  omega
theorem tailAt_none {c : UInt8} {l : List UInt8} (h : hasAt c l = false) : tailAt c l = [] := by
  have := at_back c l
  rw [h] at this
  simp at this
  rw [this]
  exact (at_none (headAt_no c l)).2.1
/-- a version's text is made of bytes above 44 -/
theorem dig_gt {c : UInt8} (h : Sem4.isDig c = true) : 44 < c.toNat := by
  unfold Sem4.isDig at h
  simp at h
  omega
theorem part_gt {c : UInt8} (h : Sem4.partCh c = true) : 44 < c.toNat := by
  unfold Sem4.partCh Sem4.isDig at h
  simp at h
  omega
theorem dots_mem {x : UInt8} : ∀ {l : List UInt8}, x ∈ l → x = 46 ∨ ∃ q ∈ Sem4.dots l, x ∈ q
  | [], h => by cases h
  | c :: l, h => by
    rw [Sem4.dots]
    by_cases hc : c = 46
    · rw [if_pos hc]
      rcases List.mem_cons.1 h with h | h
      · exact .inl (h.trans hc)
      · rcases dots_mem h with h1 | ⟨q, h1, h2⟩
        · exact .inl h1
        · exact .inr ⟨q, by simp [h1], h2⟩
    · rw [if_neg hc]
      cases hd : Sem4.dots l with
      | nil => exact absurd hd (Sem4.dots_ne l)
      | cons p ps =>
        rcases List.mem_cons.1 h with h | h
        · exact .inr ⟨c :: p, by simp, by rw [h]; simp⟩
        · rcases dots_mem h with h1 | ⟨q, h1, h2⟩
          · exact .inl h1
          · rw [hd] at h1
            rcases List.mem_cons.1 h1 with rfl | h1
            · exact .inr ⟨c :: q, by simp, by simp [h2]⟩
            · exact .inr ⟨q, by simp [h1], h2⟩
theorem pre_gt {p : List UInt8} (h : preOk p = true) : ∀ x ∈ p, 44 < x.toNat := by
  intro x hx
  unfold preOk at h
  cases p with
  | nil => cases hx
  | cons a p =>
    rw [show (a :: p).isEmpty = false from rfl, Bool.false_or] at h
    rcases dots_mem hx with rfl | ⟨q, h1, h2⟩
    · decide
    · have := List.all_eq_true.1 h q h1
      unfold Sem4.part at this
      simp only [Bool.and_eq_true] at this
      exact part_gt (List.all_eq_true.1 this.1.2 x h2)
theorem core_gt (a b c : Nat) : ∀ x ∈ showCore a b c, 44 < x.toNat := by
  intro x h
  have hdig : ∀ n, x ∈ dig10 n → 44 < x.toNat := fun n hn => dig_gt (List.all_eq_true.1 (dig10_all n) _ hn)
  unfold showCore at h
  simp only [List.mem_append, List.mem_singleton] at h
  rcases h with (((h | h) | h) | h) | h
  · exact hdig _ h
  · subst h; decide
  · exact hdig _ h
  · subst h; decide
  · exact hdig _ h
theorem showL_gt {a b c : Nat} {p : List UInt8} (h : preOk p = true) : ∀ x ∈ showL a b c p, 44 < x.toNat := by
  intro x hx
  unfold showL at hx
  split at hx
  · exact core_gt _ _ _ x hx
  · rw [List.append_assoc] at hx
    rcases List.mem_append.1 hx with hx | hx
    · exact core_gt _ _ _ x hx
    · rw [List.singleton_append] at hx
      rcases List.mem_cons.1 hx with hx | hx
      · subst hx; decide
      · exact pre_gt h x hx
theorem ver_gt {v : V4} {l : List UInt8} (h : v.IsShow l) : ∀ x ∈ l, 44 < x.toNat := by
  rw [← h.2]
  unfold V4.show
  exact showL_gt (verOk_bounds h.1).2.2.2.2.2.2.2
theorem rest_gt {c : UInt8} (h : restC c = true) : 44 < c.toNat := by
  unfold restC smallC greatC Sem4.isDig at h
  simp at h
  omega
theorem fits_gt {a : List UInt8} {k : UInt8} (h : fitsB a k = true) : ∀ x ∈ a, 44 < x.toNat := by
  unfold fitsB at h
  split at h
  · exact fun x hx => rest_gt (List.all_eq_true.1 (name_len h).2.2.1 x hx)
  · split at h
    · obtain ⟨v, hv⟩ := isVer_true.1 h
      exact ver_gt hv
    · unfold stepsOk at h
      simp only [Bool.and_eq_true] at h
      exact fun x hx => dig_gt (List.all_eq_true.1 h.1.2 x hx)
theorem allFit_gt : ∀ {as : List (List UInt8)} {ks : List UInt8}, allFit as ks = true → ∀ a ∈ as, ∀ x ∈ a, 44 < x.toNat
  | [], [], _, a, h => by cases h
  | [], _ :: _, h, _, _ => by cases h
  | _ :: _, [], h, _, _ => by cases h
  | a :: as, k :: ks, h, b, hb => by
    rw [allFit, Bool.and_eq_true] at h
    rcases List.mem_cons.1 hb with rfl | hb
    · exact fits_gt h.1
    · exact allFit_gt h.2 b hb
theorem kinds_word {word : List UInt8} {n : Nat} {ks : List UInt8} (h : kindsOf word n = some ks) : ∀ x ∈ word, 44 < x.toNat := by
  unfold kindsOf at h
  repeat' (split at h)
  all_goals first
    | (rename_i hw _; subst hw; decide)
    | (rename_i hw _ _; subst hw; decide)
    | (rename_i hw _; rcases hw with rfl | rfl | rfl <;> decide)
    | cases h
theorem right_gt {word : List UInt8} {args : List (List UInt8)} (h : rightB word args = true) : ∀ p ∈ word :: args, ∀ x ∈ p, 44 < x.toNat := by
  unfold rightB at h
  split at h
  · rename_i ks hk
    intro p hp
    rcases List.mem_cons.1 hp with rfl | hp
    · exact kinds_word hk
    · exact allFit_gt h p hp
  · cases h
theorem gt_ne {x c : UInt8} (h : 44 < x.toNat) (hc : c.toNat ≤ 44) : x ≠ c := by rintro rfl; omega
theorem join_no {c d : UInt8} (hcd : c ≠ d) : ∀ {ls : List (List UInt8)}, (∀ p ∈ ls, ∀ x ∈ p, x ≠ d) → ∀ x ∈ joinAt c ls, x ≠ d
  | [], _, x, hx => by cases hx
  | [p], h, x, hx => h p (by simp) x hx
  | p :: q :: r, h, x, hx => by
    rw [joinAt] at hx
    rcases List.mem_append.1 hx with hx | hx
    · exact h p (by simp) x hx
    · rcases List.mem_cons.1 hx with rfl | hx
      · exact hcd
      · exact join_no hcd (fun p hp => h p (by simp at hp ⊢; right; exact hp)) x hx
/-- a command -/
structure Cmd where
  word : List UInt8
  args : List (List UInt8)
  body : List UInt8
def Cmd.zero : Cmd := ⟨[], [], []⟩
/-- what a text reads as -/
noncomputable def cparse (l : List UInt8) : Cmd × Int :=
  if 8000 < l.length then (Cmd.zero, 3)
  else if rightB ((sepAt 32 (headAt 10 l)).headD []) (sepAt 32 (headAt 10 l)).tail && (hasBody ((sepAt 32 (headAt 10 l)).headD []) == hasAt 10 l) then (⟨(sepAt 32 (headAt 10 l)).headD [], (sepAt 32 (headAt 10 l)).tail, tailAt 10 l⟩, 0)
  else (Cmd.zero, 270)
def cmdText (c : Cmd) : List UInt8 := joinAt 32 (c.word :: c.args) ++ (if hasBody c.word then 10 :: c.body else [])
/-- how a command is written -/
noncomputable def cshow (c : Cmd) : List UInt8 × Int :=
  if rightB c.word c.args && (hasBody c.word || c.body.isEmpty) then (if 8000 < (cmdText c).length then ([], 3) else (cmdText c, 0)) else ([], 270)
theorem cshow_cases (c : Cmd) : ((cshow c).2 = 0 ∧ (cshow c).1 = cmdText c ∧ (cmdText c).length ≤ 8000 ∧ rightB c.word c.args = true ∧ (hasBody c.word = true ∨ c.body = [])) ∨ (cshow c = ([], 3) ∨ cshow c = ([], 270)) := by
  unfold cshow
  split
  · rename_i h
    rw [Bool.and_eq_true, Bool.or_eq_true, List.isEmpty_iff] at h
    split
    · exact .inr (.inl rfl)
    · exact .inl ⟨rfl, rfl, by omega, h.1, h.2⟩
  · exact .inr (.inr rfl)
theorem cmd_back {c : Cmd} (hs : (cmdText c).length ≤ 8000) (hr : rightB c.word c.args = true) (hb : hasBody c.word = true ∨ c.body = []) : cparse (cmdText c) = (c, 0) := by
  have hgt := right_gt hr
  have hne : c.word :: c.args ≠ [] := by simp
  have hsep : sepAt 32 (joinAt 32 (c.word :: c.args)) = c.word :: c.args := sepAt_join hne (fun p hp x hx => gt_ne (hgt p hp x hx) (by decide))
  have hno : ∀ x ∈ joinAt 32 (c.word :: c.args), x ≠ 10 := join_no (by decide) (fun p hp x hx => gt_ne (hgt p hp x hx) (by decide))
  have hcut : headAt 10 (cmdText c) = joinAt 32 (c.word :: c.args) ∧ tailAt 10 (cmdText c) = c.body ∧ hasAt 10 (cmdText c) = hasBody c.word := by
    unfold cmdText
    cases hh : hasBody c.word
    · rw [hh] at hb
      rcases hb with h | h
      · cases h
      · simp only [Bool.false_eq_true, if_false, List.append_nil]
        obtain ⟨g1, g2, g3⟩ := at_none hno
        exact ⟨g1, by rw [g2, h], g3⟩
    · simp only [if_true]
      exact at_app _ hno
  unfold cparse
  rw [if_neg (by omega), hcut.1, hcut.2.1, hcut.2.2, hsep]
  simp [hr]
theorem cmd_forms {l : List UInt8} {c : Cmd} (h : cparse l = (c, 0)) : cshow c = (l, 0) := by
  unfold cparse at h
  split at h
  · exact absurd (congrArg Prod.snd h) (by simp)
  · rename_i hl
    split at h
    · rename_i hr
      have hc := congrArg Prod.fst h
      simp only at hc
      subst hc
      rw [Bool.and_eq_true, beq_iff_eq] at hr
      have hne := sepAt_ne 32 (headAt 10 l)
      have hht : (sepAt 32 (headAt 10 l)).headD [] :: (sepAt 32 (headAt 10 l)).tail = sepAt 32 (headAt 10 l) := by
        cases hs : sepAt 32 (headAt 10 l) with
        | nil => exact absurd hs hne
        | cons p ps => rfl
      have ht : cmdText ⟨(sepAt 32 (headAt 10 l)).headD [], (sepAt 32 (headAt 10 l)).tail, tailAt 10 l⟩ = l := by
        unfold cmdText
        simp only
        rw [hht, joinAt_sep, hr.2]
        exact (at_back 10 l).symm
      unfold cshow
      rw [ht]
      simp only
      have hb : (hasBody ((sepAt 32 (headAt 10 l)).headD []) || (tailAt 10 l).isEmpty) = true := by
        rw [hr.2]
        cases hh : hasAt 10 l
        · rw [tailAt_none hh]; rfl
        · rfl
      rw [hr.1, hb]
      simp [hl]
    · exact absurd (congrArg Prod.snd h) (by simp)
theorem cparse_cases (l : List UInt8) : (∃ c, cparse l = (c, 0) ∧ l.length ≤ 8000) ∨ (cparse l = (Cmd.zero, 3) ∧ 8000 < l.length) ∨ (cparse l = (Cmd.zero, 270) ∧ l.length ≤ 8000) := by
  unfold cparse
  split
  · rename_i h; exact .inr (.inl ⟨rfl, h⟩)
  · rename_i h
    split
    · exact .inl ⟨_, rfl, by omega⟩
    · exact .inr (.inr ⟨rfl, by omega⟩)
end Go
