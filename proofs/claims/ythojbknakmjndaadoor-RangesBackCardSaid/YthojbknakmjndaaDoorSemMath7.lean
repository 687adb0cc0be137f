/- Versions in plain Lean: the program's reader. -/
import Derived.Test.YthojbknakmjndaaDoorSemMath6
namespace Go
/-- what a number without zeros ahead spells -/
theorem dig10_dfold (l : List UInt8) (h : l.all Sem4.isDig = true) (hn : l ≠ []) (hl : l.length ≤ 6) (h0 : l.length ≤ 1 ∨ l.head? ≠ some 48) : dig10 (dfold l) = l := by
  have key : ∀ (n : Nat) (l : List UInt8), l.length = n → l.all Sem4.isDig = true → l ≠ [] → l.length ≤ 6 → (l.length ≤ 1 ∨ l.head? ≠ some 48) → dig10 (dfold l) = l ∧ dfold l < 10 ^ l.length ∧ (l.head? ≠ some 48 → 1 ≤ dfold l) := by
    intro n
    induction n with
    | zero => intro l h1 _ h3; exact absurd (List.eq_nil_of_length_eq_zero h1) h3
    | succ n ih =>
      intro l h1 h2 h3 h4 h5
      obtain ⟨q, c, rfl⟩ : ∃ q c, l = q ++ [c] := ⟨l.dropLast, l.getLast h3, (List.dropLast_concat_getLast h3).symm⟩
      rw [List.all_append, Bool.and_eq_true] at h2
      have hd : 48 ≤ c.toNat ∧ c.toNat ≤ 57 := by have := h2.2; simpa [Sem4.isDig] using this
      have hc : UInt8.ofNat (48 + (c.toNat - 48)) = c := by
        apply UInt8.toNat_inj.1
        rw [ofNat_toNat _ (by omega)]; omega
      rw [dfold_snoc]
      cases hq : q with
      | nil =>
        have e : dstep (dfold []) c = c.toNat - 48 := by unfold dstep dfold; simp
        rw [e, dig10_lt _ (by omega), hc]
        refine ⟨rfl, by simp; omega, fun hh => ?_⟩
        have : c ≠ 48 := fun e => hh (by rw [e]; rfl)
        have : c.toNat ≠ 48 := fun e => this (UInt8.toNat_inj.1 e)
        omega
      | cons a r =>
        rw [← hq]
        have hqn : q ≠ [] := by rw [hq]; simp
        have hlen : q.length = n := by simp at h1; omega
        have hh : q.head? ≠ some 48 := by
          rcases h5 with h5 | h5
          · rw [hq] at h5; simp at h5
          · rw [hq] at h5 ⊢; simpa using h5
        have hl6 : q.length ≤ 6 := by simp at h4; omega
        obtain ⟨i1, i2, i3⟩ := ih q hlen h2.1 hqn hl6 (.inr hh)
        have i4 := i3 hh
        have hq5 : q.length ≤ 5 := by simp at h4; omega
        have h6 : 10 ^ q.length ≤ 10 ^ 5 := Nat.pow_le_pow_right (by decide) hq5
        have e : dstep (dfold q) c = 10 * dfold q + (c.toNat - 48) := by unfold dstep; rw [if_pos (by omega)]
        rw [e]
        refine ⟨?_, ?_, fun _ => by omega⟩
        · rw [dig10_ge _ (by omega), show (10 * dfold q + (c.toNat - 48)) / 10 = dfold q by omega, show (10 * dfold q + (c.toNat - 48)) % 10 = c.toNat - 48 by omega, i1, hc]
        · rw [List.length_append, List.length_singleton, Nat.pow_succ]; omega
  exact (key l.length l rfl h hn hl h0).1
/-- a number as a version's text bears it -/
def okNum (p : List UInt8) : Bool := Sem4.digits p && decide (p.length ≤ 6) && (decide (p.length ≤ 1) || decide (p.head? ≠ some 48))
theorem okNum_iff (p : List UInt8) : okNum p = true ↔ Sem4.digits p = true ∧ p.length ≤ 6 ∧ (p.length ≤ 1 ∨ p.head? ≠ some 48) := by
  simp [okNum, and_assoc]
theorem dig10_head (n : Nat) : n < 10 ∨ (dig10 n).head? ≠ some 48 := by
  induction n using Nat.strongRecOn with
  | ind n ih =>
    by_cases h : n < 10
    · exact .inl h
    · right
      rw [dig10_ge n (by omega)]
      rcases ih (n / 10) (by omega) with h1 | h1
      · rw [dig10_lt _ h1]
        simp only [List.cons_append, List.head?_cons]
        intro e
        have := congrArg UInt8.toNat (Option.some.inj e)
        rw [ofNat_toNat _ (by omega)] at this
        have : 48 + n / 10 = 48 := this
        omega
      · cases hd : dig10 (n / 10) with
        | nil => exact absurd hd (dig10_ne _)
        | cons a r => rw [hd] at h1; simpa using h1
theorem okNum_dig10 (n : Nat) (h : n ≤ 999999) : okNum (dig10 n) = true := by
  rw [okNum_iff]
  refine ⟨?_, dig10_len n h, ?_⟩
  · unfold Sem4.digits
    rw [dig10_all]
    cases hd : dig10 n with
    | nil => exact absurd hd (dig10_ne _)
    | cons a r => rfl
  · rcases dig10_head n with h | h
    · left; rw [dig10_lt n h]; exact Nat.le_refl _
    · exact .inr h
theorem okNum_back {p : List UInt8} (h : okNum p = true) : dig10 (dfold p) = p := by
  rw [okNum_iff] at h
  refine dig10_dfold p (digits_all h.1) ?_ h.2.1 h.2.2
  rintro rfl
  exact absurd h.1 (by decide)
theorem dots_join3 {l a b c : List UInt8} (h : Sem4.dots l = [a, b, c]) : l = a ++ [46] ++ b ++ [46] ++ c := by
  have one : ∀ l a : List UInt8, Sem4.dots l = [a] → l = a := by
    intro l
    induction l with
    | nil => intro a h; simpa [Sem4.dots] using h
    | cons x l ih =>
      intro a h
      rw [Sem4.dots] at h
      split at h
      · simp [Sem4.dots_ne] at h
      · split at h
        · rename_i hd; exact absurd hd (Sem4.dots_ne l)
        · rename_i p ps hd
          simp at h
          obtain ⟨rfl, rfl⟩ := h
          rw [← ih p hd]
  have step : ∀ (l a : List UInt8) (r : List (List UInt8)), r ≠ [] → Sem4.dots l = a :: r → ∃ y, l = a ++ 46 :: y ∧ Sem4.dots y = r := by
    intro l
    induction l with
    | nil => intro a r hr h; simp [Sem4.dots] at h; exact absurd h.2.symm hr.symm
    | cons x l ih =>
      intro a r hr h
      rw [Sem4.dots] at h
      split at h
      · rename_i hx
        simp at h
        exact ⟨l, by rw [hx, h.1]; rfl, h.2⟩
      · split at h
        · rename_i hd; exact absurd hd (Sem4.dots_ne l)
        · rename_i p ps hd
          simp at h
          obtain ⟨rfl, rfl⟩ := h
          obtain ⟨y, h1, h2⟩ := ih p ps hr hd
          exact ⟨y, by rw [h1]; rfl, h2⟩
  obtain ⟨y, h1, h2⟩ := step l a [b, c] (by simp) h
  obtain ⟨z, h3, h4⟩ := step y b [c] (by simp) h2
  rw [h1, h3, one z c h4]
  simp
theorem core_pre (l : List UInt8) : l = coreOf l ++ (if l.any (fun c => !notDash c) then 45 :: preOf l else []) := by
  unfold coreOf preOf
  induction l with
  | nil => rfl
  | cons a l ih =>
    by_cases h : notDash a = true
    · rw [List.takeWhile_cons, if_pos h, List.dropWhile_cons, if_pos h, List.any_cons, h]
      simp only [Bool.not_true, Bool.false_or, List.cons_append]
      rw [← ih]
    · have ha : a = 45 := by simpa [notDash] using h
      subst ha
      rfl
theorem preOf_none {l : List UInt8} (h : l.any (fun c => !notDash c) = false) : preOf l = [] := by
  have h1 : l.all notDash = true := by
    rw [List.all_eq_true]; intro x hx
    rw [List.any_eq_false] at h
    simpa using h x hx
  unfold preOf
  rw [dropWhile_all h1]; rfl
/-- what is read rightly is what was written -/
theorem parse_is {l a b c : List UInt8} (h : Sem4.dots (coreOf l) = [a, b, c]) (ha : okNum a = true) (hb : okNum b = true) (hc : okNum c = true)
    (hm : (l.any (fun c => !notDash c) && (preOf l).isEmpty) = false) : showL (dfold a) (dfold b) (dfold c) (preOf l) = l := by
  have h1 := dots_join3 h
  have h2 := core_pre l
  unfold showL showCore
  rw [okNum_back ha, okNum_back hb, okNum_back hc, ← h1]
  cases hd : l.any (fun c => !notDash c)
  · rw [preOf_none hd] at *
    rw [hd] at h2
    simp at h2 ⊢
    exact h2.symm
  · rw [hd] at hm h2
    simp only [Bool.true_and] at hm
    rw [hm]
    simp at h2 ⊢
    exact h2.symm
/-- a version's text has three numbers -/
theorem show_parts {l : List UInt8} {a b c : Int} {p : List UInt8} (h : IsShow a b c p l) : ∃ x y z, Sem4.dots (coreOf l) = [x, y, z] ∧ okNum x = true ∧ okNum y = true ∧ okNum z = true ∧ (l.any (fun c => !notDash c) && (preOf l).isEmpty) = false := by
  obtain ⟨h1, h2⟩ := h
  have hb := verOk_bounds h1
  refine ⟨dig10 a.toNat, dig10 b.toNat, dig10 c.toNat, ?_, okNum_dig10 _ (by omega), okNum_dig10 _ (by omega), okNum_dig10 _ (by omega), ?_⟩
  · rw [← h2, coreOf_show, dots_core]
  · cases hp : (preOf l).isEmpty
    · simp
    · rw [← h2, preOf_show] at hp
      have e : l.any (fun c => !notDash c) = false := by
        rw [← h2]; unfold showL; rw [hp]; simp only [if_true]
        rw [List.any_eq_false]
        intro x hx
        rw [core_dash _ _ _ x hx]; decide
      rw [e]; rfl
theorem parse_no3 {l : List UInt8} (h : (Sem4.dots (coreOf l)).length ≠ 3) : ParseIs l 0 0 0 [] 40 :=
  parse_no fun a b c p hs => by
    obtain ⟨x, y, z, h1, _⟩ := show_parts hs
    rw [h1] at h; exact h rfl
theorem parse_noPre {l : List UInt8} (h : (l.any (fun c => !notDash c) && (preOf l).isEmpty) = true) : ParseIs l 0 0 0 [] 40 :=
  parse_no fun a b c p hs => by
    obtain ⟨x, y, z, _, _, _, _, h5⟩ := show_parts hs
    rw [h5] at h; cases h
theorem parse_noNum {l : List UInt8} {k : Nat} (hk : k < (Sem4.dots (coreOf l)).length) (h : okNum (Sem4.dots (coreOf l))[k] = false) : ParseIs l 0 0 0 [] 40 :=
  parse_no fun a b c p hs => by
    obtain ⟨x, y, z, h1, h2, h3, h4, _⟩ := show_parts hs
    have hm : (Sem4.dots (coreOf l))[k] ∈ [x, y, z] := by rw [← h1]; exact List.getElem_mem hk
    simp at hm
    rcases hm with e | e | e <;> rw [e] at h <;> simp_all
end Go
