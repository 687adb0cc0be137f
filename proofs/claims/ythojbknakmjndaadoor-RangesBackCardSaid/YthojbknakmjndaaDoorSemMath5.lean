/- Versions in plain Lean: what the document's reader makes of a text. -/
import Derived.Test.YthojbknakmjndaaDoorSemMath4
namespace Go
def digOrDot (c : UInt8) : Bool := Sem4.isDig c || decide (c = 46)
/-- the number that stands at a place -/
def numAt (l : List UInt8) (j : Nat) : Nat := dfold ((Sem4.dots l).getD j [])
theorem numAt_nil (j : Nat) : numAt [] j = 0 := by
  cases j <;> rfl
theorem numAt_dot (l : List UInt8) (j : Nat) : numAt (l ++ [46]) j = numAt l j := by
  unfold numAt
  rw [Sem4.dots_snoc]
  congr 1
  unfold Sem4.dotSnoc
  rw [if_pos rfl, List.getD_eq_getElem?_getD, List.getD_eq_getElem?_getD]
  rcases Nat.lt_trichotomy j (Sem4.dots l).length with h | h | h
  · rw [List.getElem?_append_left h]
  · subst h; simp
  · rw [List.getElem?_append_right (by omega), List.getElem?_eq_none (by simp; omega), List.getElem?_eq_none (by omega)]
theorem numAt_dig (l : List UInt8) (c : UInt8) (hc : c ≠ 46) (m : Nat) (hm : (Sem4.dots l).length = m + 1) (j : Nat) : numAt (l ++ [c]) j = if j = m then dstep (numAt l m) c else numAt l j := by
  unfold numAt
  rw [Sem4.dots_snoc]
  unfold Sem4.dotSnoc
  rw [if_neg hc]
  obtain ⟨i, x, hix⟩ : ∃ i x, Sem4.dots l = i ++ [x] := ⟨(Sem4.dots l).dropLast, (Sem4.dots l).getLast (Sem4.dots_ne l), (List.dropLast_concat_getLast _).symm⟩
  rw [hix] at hm ⊢
  simp at hm
  subst hm
  rw [List.dropLast_concat, List.getLastD_concat, List.getD_eq_getElem?_getD, List.getD_eq_getElem?_getD, List.getD_eq_getElem?_getD]
  by_cases h : j = i.length
  · subst h
    rw [if_pos rfl]
    simp [dfold_snoc]
  · rw [if_neg h]
    congr 2
    rcases Nat.lt_or_ge j i.length with h1 | h1
    · rw [List.getElem?_append_left h1, List.getElem?_append_left h1]
    · rw [List.getElem?_eq_none (by simp; omega), List.getElem?_eq_none (by simp; omega)]
theorem dots_allDig {l : List UInt8} (h : l.all digOrDot = true) : ∀ p ∈ Sem4.dots l, p.all Sem4.isDig = true := by
  induction l with
  | nil => intro p hp; simp [Sem4.dots] at hp; subst hp; rfl
  | cons c l ih =>
    rw [List.all_cons, Bool.and_eq_true] at h
    have ih := ih h.2
    intro p hp
    by_cases hc : c = 46
    · rw [Sem4.dots, if_pos hc] at hp
      rcases List.mem_cons.1 hp with rfl | hp
      · rfl
      · exact ih p hp
    · have hd : Sem4.isDig c = true := by
        have := h.1; unfold digOrDot at this; simpa [hc] using this
      rw [Sem4.dots, if_neg hc] at hp
      split at hp
      · simp at hp; subst hp; simp [hd]
      · rename_i q qs hq
        rcases List.mem_cons.1 hp with rfl | hp
        · rw [List.all_cons, hd, ih q (by rw [hq]; simp)]; rfl
        · exact ih p (by rw [hq]; simp [hp])
theorem numAt_le {l : List UInt8} (h : l.all digOrDot = true) (j : Nat) : numAt l j ≤ 9999999 := by
  unfold numAt
  rw [List.getD_eq_getElem?_getD]
  cases e : (Sem4.dots l)[j]? with
  | none => simp [dfold]
  | some p => exact dfold_le p (dots_allDig h p (List.mem_of_getElem? e))
theorem core_digDot (a b c : Nat) : (showCore a b c).all digOrDot = true := by
  have h : ∀ n, (dig10 n).all digOrDot = true := fun n => List.all_eq_true.2 fun x hx => by
    have := List.all_eq_true.1 (dig10_all n) x hx
    simp [digOrDot, this]
  unfold showCore
  simp only [List.all_append, h, List.all_cons, List.all_nil]
  rfl
theorem digDot_dash {l : List UInt8} (h : l.all digOrDot = true) : ∀ x ∈ l, notDash x = true := by
  intro x hx
  have := List.all_eq_true.1 h x hx
  unfold notDash
  simp only [decide_eq_true_eq]
  rintro rfl
  simp [digOrDot, Sem4.isDig] at this
/-- an unlike byte ahead of the first '-' -/
theorem parse_bad {l : List UInt8} {n : Nat} (hn : n < l.length) (h : (l.take n).all digOrDot = true) (h1 : l[n] ≠ 45) (h2 : digOrDot l[n] = false) : ∀ a b c p, ¬ IsShow a b c p l := by
  rintro a b c p ⟨_, hs⟩
  have hm : l[n] ∈ coreOf l := by
    have e : l = l.take n ++ l[n] :: l.drop (n + 1) := by
      rw [← List.drop_eq_getElem_cons hn, List.take_append_drop]
    have : coreOf l = l.take n ++ l[n] :: (l.drop (n + 1)).takeWhile notDash := by
      unfold coreOf
      conv => lhs; rw [e]
      rw [List.takeWhile_append_of_pos (digDot_dash h), List.takeWhile_cons, if_pos (by unfold notDash; simpa using h1)]
    rw [this]; simp
  have hc := congrArg coreOf hs
  rw [coreOf_show] at hc
  rw [← hc] at hm
  have := List.all_eq_true.1 (core_digDot a.toNat b.toNat c.toNat) _ hm
  rw [h2] at this; cases this
/-- a third dot ahead of the first '-' -/
theorem parse_many {l : List UInt8} {n : Nat} (h : (l.take n).all digOrDot = true) (h1 : 3 < (Sem4.dots (l.take n)).length) : ∀ a b c p, ¬ IsShow a b c p l := by
  rintro a b c p ⟨_, hs⟩
  have hc := congrArg coreOf hs
  rw [coreOf_show] at hc
  have e : coreOf l = l.take n ++ (l.drop n).takeWhile notDash := by
    unfold coreOf
    conv => lhs; rw [← List.take_append_drop n l]
    rw [List.takeWhile_append_of_pos (digDot_dash h)]
  have h2 := dots_core a.toNat b.toNat c.toNat
  have h3 := congrArg List.length h2
  rw [hc, e, count_dots, List.count_append] at h3
  rw [count_dots] at h1
  simp at h3
  omega
/-- where the numbers end -/
theorem parse_core {l : List UInt8} {n : Nat} (h : (l.take n).all digOrDot = true) (hn : n = l.length ∨ ∃ h : n < l.length, l[n] = 45) : coreOf l = l.take n ∧ preOf l = l.drop (n + 1) := by
  unfold coreOf preOf
  have e := List.take_append_drop n l
  constructor
  · conv => lhs; rw [← e]
    rw [List.takeWhile_append_of_pos (digDot_dash h)]
    rcases hn with rfl | ⟨hn, h45⟩
    · simp
    · rw [List.drop_eq_getElem_cons hn, List.takeWhile_cons, if_neg (by rw [h45]; decide)]; simp
  · conv => lhs; rw [← e]
    rw [List.dropWhile_append_of_pos (digDot_dash h)]
    rcases hn with rfl | ⟨hn, h45⟩
    · simp
    · rw [List.drop_eq_getElem_cons hn, List.dropWhile_cons, if_neg (by rw [h45]; decide)]; simp
/-- what is read is what was written, or nothing was -/
theorem parse_end {l t : List UInt8} (ht : coreOf l = t) {a b c : Int} {p : List UInt8} (h : IsShow a b c p l) : a = numAt t 0 ∧ b = numAt t 1 ∧ c = numAt t 2 ∧ p = preOf l := by
  obtain ⟨h1, h2⟩ := h
  have hb := verOk_bounds h1
  have hc := congrArg coreOf h2
  rw [coreOf_show, ht] at hc
  have hp := congrArg preOf h2
  rw [preOf_show] at hp
  subst hc
  unfold numAt
  rw [dots_core]
  simp only [List.getD_cons_zero, List.getD_cons_succ]
  rw [dfold_dig10 _ (by omega), dfold_dig10 _ (by omega), dfold_dig10 _ (by omega)]
  exact ⟨by omega, by omega, by omega, hp⟩
theorem parse_yes {l : List UInt8} {a b c : Int} {p : List UInt8} (h : IsShow a b c p l) : ParseIs l a b c p 0 := .inl ⟨rfl, h⟩
theorem parse_no {l : List UInt8} (h : ∀ a b c p, ¬ IsShow a b c p l) : ParseIs l 0 0 0 [] 40 := .inr ⟨rfl, rfl, rfl, rfl, rfl, h⟩
theorem parse_no_end {l t : List UInt8} (ht : coreOf l = t) (h : ¬ IsShow (numAt t 0) (numAt t 1) (numAt t 2) (preOf l) l) : ParseIs l 0 0 0 [] 40 :=
  parse_no fun a b c p hs => by
    obtain ⟨rfl, rfl, rfl, rfl⟩ := parse_end ht hs
    exact h hs
theorem parse_long {l : List UInt8} (h : 60 < l.length) : ParseIs l 0 0 0 [] 40 :=
  parse_no fun a b c p ⟨h1, h2⟩ => by
    have hb := verOk_bounds h1
    have := showL_len (a := a.toNat) (b := b.toNat) (c := c.toNat) (p := p) (by omega) (by omega) (by omega) hb.2.2.2.2.2.2.1
    rw [h2] at this
    omega
end Go
