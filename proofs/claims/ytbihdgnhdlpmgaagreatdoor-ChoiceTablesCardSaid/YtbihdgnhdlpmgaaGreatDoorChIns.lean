/- Choices: one more, put in where it belongs, plainly. -/
import Derived.Test.YtbihdgnhdlpmgaaGreatDoorChOffers
namespace Go
open Go.RowKit
theorem there_perm {out sel : List DOff} (h : out.Perm sel) (o : DOff) : thereB out o = thereB sel o := by
  unfold thereB
  rw [Bool.eq_iff_iff, List.any_eq_true, List.any_eq_true]
  exact ⟨fun ⟨x, h1, h2⟩ => ⟨x, h.mem_iff.1 h1, h2⟩, fun ⟨x, h1, h2⟩ => ⟨x, h.mem_iff.2 h1, h2⟩⟩
/-- what the reference has so far -/
def InsOk (lock : List Pik) (nm : ByteArray) (out sel : List DOff) : Prop := out.Perm sel ∧ out.Pairwise fun x y => cmpO lock nm x y < 0
def insAt (out : List DOff) (o : DOff) (j : Nat) : List DOff := out.take j ++ [o] ++ out.drop j
theorem ins_skip {lock : List Pik} {nm : ByteArray} {needs : List (Want × Value)} {out sel : List DOff} {o : DOff} (h : InsOk lock nm out sel) (hn : thereB out o = true ∨ fitO lock nm needs o = false) : InsOk lock nm out (selStep lock nm needs sel o) := by
  unfold selStep
  rw [← there_perm h.1]
  rcases hn with e | e
  · rw [e]; simpa using h
  · rw [e]; simpa using h
theorem ins_step {lock : List Pik} {nm : ByteArray} {needs : List (Want × Value)} {out sel : List DOff} {o : DOff} (h : InsOk lock nm out sel) (hf : ∀ x ∈ sel, fitO lock nm needs x = true) (h1 : thereB out o = false) (h2 : fitO lock nm needs o = true)
    {j : Nat} (hj : j ≤ out.length) (hb : ∀ i (hi : i < out.length), i < j → ¬ cmpO lock nm o out[i] < 0) (ha : ∀ hi : j < out.length, cmpO lock nm o out[j] < 0) : InsOk lock nm (insAt out o j) (selStep lock nm needs sel o) := by
  have ho := good_cmpO lock nm
  have hne : ∀ x ∈ out, x.v ≠ o.v := fun x hx e => by
    have : thereB out o = true := List.any_eq_true.2 ⟨x, hx, (V4.same_eq _ _).2 e⟩
    rw [h1] at this; cases this
  have hlt : ∀ x ∈ out, ¬ cmpO lock nm o x < 0 → cmpO lock nm x o < 0 := fun x hx hn => by
    have e1 : cmpO lock nm x o = - cmpO lock nm o x := ho.1 x o
    have := cmpO_ne (lock := lock) (nm := nm) (fit_ok (hf x (h.1.mem_iff.1 hx))) (fit_ok h2) (hne x hx)
    omega
  constructor
  · unfold selStep insAt
    rw [← there_perm h.1, if_pos ⟨h1, h2⟩]
    have e : (out.take j ++ [o] ++ out.drop j).Perm (out.take j ++ out.drop j ++ [o]) := by
      rw [List.append_assoc, List.append_assoc]
      exact List.Perm.append_left _ List.perm_append_comm
    rw [List.take_append_drop] at e
    exact e.trans (h.1.append_right _)
  · unfold insAt
    have hp := h.2
    rw [← List.take_append_drop j out] at hp
    obtain ⟨p1, p2, p3⟩ := List.pairwise_append.1 hp
    have hleft : ∀ x ∈ out.take j, cmpO lock nm x o < 0 := fun x hx => by
      obtain ⟨i, hi, e⟩ := List.getElem_of_mem hx
      rw [List.length_take] at hi
      rw [List.getElem_take] at e
      subst e
      exact hlt _ (List.getElem_mem _) (hb i (by omega) (by omega))
    have hright : ∀ x ∈ out.drop j, cmpO lock nm o x < 0 := fun x hx => by
      obtain ⟨i, hi, e⟩ := List.getElem_of_mem hx
      rw [List.length_drop] at hi
      rw [List.getElem_drop] at e
      subst e
      have hj2 : j < out.length := by omega
      rcases Nat.eq_zero_or_pos i with e0 | e0
      · subst e0; exact ha hj2
      · have h3 := List.pairwise_iff_getElem.1 h.2 j (j + i) hj2 (by omega) (by omega)
        exact ho.lt_le (ha hj2) (by omega)
    refine List.pairwise_append.2 ⟨List.pairwise_append.2 ⟨p1, by simp, fun x hx y hy => ?_⟩, p2, fun x hx y hy => ?_⟩
    · simp at hy; subst hy; exact hleft x hx
    · rcases List.mem_append.1 hx with hx | hx
      · exact p3 x hx y hy
      · simp at hx; subst hx; exact hright y hy
theorem insAt_len (out : List DOff) (o : DOff) {j : Nat} (h : j ≤ out.length) : (insAt out o j).length = out.length + 1 := by
  unfold insAt
  simp; omega
theorem insAt_cells (out : List DOff) (o : DOff) (j : Nat) : (insAt out o j).flatMap DOff.cells = (out.take j).flatMap DOff.cells ++ o.cells ++ (out.drop j).flatMap DOff.cells := by
  unfold insAt; simp
end Go
