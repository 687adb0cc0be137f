/- Versions in plain Lean: the highest of any. -/
import Derived.Test.YthojbknakmjndaaDoorSemMath8
namespace Go
section
variable {α : Type} (f : α → α → Int)
def bestStep (b v : α) : α := if 0 < f v b then v else b
/-- the program's: the first that none behind it passes -/
def bestOf (z : α) : List α → α
  | [] => z
  | v :: vs => vs.foldl (bestStep f) v
def isMax (vs : List α) (x : α) : Bool := vs.all fun y => decide (f y x ≤ 0)
theorem bestOf_snoc (z : α) (vs : List α) (x : α) (h : vs ≠ []) : bestOf f z (vs ++ [x]) = bestStep f (bestOf f z vs) x := by
  cases vs with
  | nil => exact absurd rfl h
  | cons v vs => simp [bestOf]
theorem bestOf_one (z x : α) : bestOf f z [x] = x := rfl
variable {f}
theorem best_first (hf : OrdG f) (z : α) (vs : List α) (h : vs ≠ []) : ∃ i, ∃ hi : i < vs.length, vs[i] = bestOf f z vs ∧ (∀ y ∈ vs, f y (bestOf f z vs) ≤ 0) ∧ ∀ j (hj : j < i), f (vs[j]'(by omega)) (bestOf f z vs) < 0 := by
  have key : ∀ n (vs : List α), vs.length = n + 1 → ∃ i, ∃ hi : i < vs.length, vs[i] = bestOf f z vs ∧ (∀ y ∈ vs, f y (bestOf f z vs) ≤ 0) ∧ ∀ j (hj : j < i), f (vs[j]'(by omega)) (bestOf f z vs) < 0 := by
    intro n
    induction n with
    | zero =>
      intro vs hl
      obtain ⟨x, rfl⟩ : ∃ x, vs = [x] := List.length_eq_one_iff.1 hl
      refine ⟨0, by simp, rfl, ?_, fun j hj => absurd hj (by omega)⟩
      intro y hy
      simp at hy; subst hy
      show f y y ≤ 0
      rw [hf.self]; exact Int.le_refl _
    | succ n ih =>
      intro vs hl
      obtain ⟨us, x, rfl⟩ : ∃ us x, vs = us ++ [x] := by
        have hne : vs ≠ [] := by intro e; rw [e] at hl; cases hl
        exact ⟨vs.dropLast, vs.getLast hne, (List.dropLast_concat_getLast hne).symm⟩
      have hul : us.length = n + 1 := by simp at hl; omega
      have hune : us ≠ [] := by intro e; rw [e] at hul; cases hul
      obtain ⟨i, hi, h1, h2, h3⟩ := ih us hul
      rw [bestOf_snoc f z us x hune]
      unfold bestStep
      by_cases hx : 0 < f x (bestOf f z us)
      · rw [if_pos hx]
        have hlt : ∀ y ∈ us, f y x < 0 := fun y hy => hf.le_lt (h2 y hy) (by have := hf.1 x (bestOf f z us); omega)
        refine ⟨us.length, by simp, by simp, ?_, ?_⟩
        · intro y hy
          rcases List.mem_append.1 hy with hy | hy
          · have := hlt y hy; omega
          · simp at hy; subst hy; rw [hf.self]; exact Int.le_refl _
        · intro j hj
          rw [List.getElem_append_left hj]
          exact hlt _ (List.getElem_mem hj)
      · rw [if_neg hx]
        refine ⟨i, by simp; omega, by rw [List.getElem_append_left hi]; exact h1, ?_, ?_⟩
        · intro y hy
          rcases List.mem_append.1 hy with hy | hy
          · exact h2 y hy
          · simp at hy; subst hy; omega
        · intro j hj
          rw [List.getElem_append_left (by omega)]
          exact h3 j hj
  cases hv : vs with
  | nil => exact absurd hv h
  | cons v us => exact key us.length (v :: us) (by simp)
theorem best_max (hf : OrdG f) (z : α) {vs : List α} {i : Nat} (hi : i < vs.length) (hm : isMax f vs vs[i] = true) (hno : ∀ j (hj : j < i), isMax f vs (vs[j]'(by omega)) = false) : bestOf f z vs = vs[i] := by
  have hne : vs ≠ [] := by intro e; subst e; cases hi
  obtain ⟨k, hk, h1, h2, h3⟩ := best_first hf z vs hne
  have hmk : isMax f vs vs[k] = true := by
    unfold isMax
    rw [List.all_eq_true]
    intro y hy
    rw [h1]
    simpa using h2 y hy
  rcases Nat.lt_trichotomy i k with hlt | heq | hgt
  · have h4 := h3 i hlt
    unfold isMax at hm
    rw [List.all_eq_true] at hm
    have h5 := of_decide_eq_true (hm vs[k] (List.getElem_mem hk))
    rw [h1] at h5
    have := hf.1 (bestOf f z vs) vs[i]
    omega
  · subst heq; exact h1.symm
  · have := hno k hgt
    rw [hmk] at this; cases this
theorem best_some (hf : OrdG f) (z : α) {vs : List α} (hne : vs ≠ []) (hno : ∀ j (hj : j < vs.length), isMax f vs vs[j] = false) : False := by
  obtain ⟨k, hk, h1, h2, _⟩ := best_first hf z vs hne
  have := hno k hk
  unfold isMax at this
  rw [List.all_eq_false] at this
  obtain ⟨y, hy, hh⟩ := this
  rw [h1] at hh
  exact hh (by simpa using h2 y hy)
end
end Go
