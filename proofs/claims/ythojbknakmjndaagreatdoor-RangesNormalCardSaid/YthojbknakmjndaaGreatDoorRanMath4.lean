/- The least form of ranges in plain Lean. -/
import Derived.Test.YthojbknakmjndaaGreatDoorRanMath3
namespace Go
open Go.RowKit
def Bnd.nothing : Bnd := ⟨1, ⟨0, 0, 0, ⟨#[48]⟩⟩⟩
def Bnd.fix (b : Bnd) : Bnd := if opOk b.op then b else Bnd.nothing
def maxOp (o : Int) : Int := if o ≤ 4 then 4 else o
def minOp (o : Int) : Int := if 2 ≤ o then 2 else o
/-- the program's step at the lower end -/
def stepLo (e b : Bnd) : Bnd := if 3 ≤ b.op then (if e.op = 0 ∨ 0 < V4.cmp b.v e.v ∨ (V4.cmp b.v e.v = 0 ∧ maxOp b.op = 5 ∧ e.op = 4) then ⟨maxOp b.op, b.v⟩ else e) else e
def stepHi (e b : Bnd) : Bnd := if b.op ≤ 3 then (if e.op = 0 ∨ V4.cmp b.v e.v < 0 ∨ (V4.cmp b.v e.v = 0 ∧ minOp b.op = 1 ∧ e.op = 2) then ⟨minOp b.op, b.v⟩ else e) else e
structure TwoEnds where
  lo : Bnd
  hi : Bnd
def TwoEnds.zero : TwoEnds := ⟨Bnd.zero, Bnd.zero⟩
def TwoEnds.add (x : TwoEnds) (b : Bnd) : TwoEnds := ⟨stepLo x.lo b.fix, stepHi x.hi b.fix⟩
def endsOf (bs : List Bnd) : TwoEnds := bs.foldl TwoEnds.add TwoEnds.zero
def normalE (x : TwoEnds) : List Bnd :=
  if x.lo.op = 0 then (if x.hi.op = 0 then [] else [x.hi])
  else if x.hi.op = 0 then [x.lo]
  else if V4.cmp x.lo.v x.hi.v = 0 ∧ x.lo.op = 4 ∧ x.hi.op = 2 then [⟨3, x.lo.v⟩]
  else if 0 ≤ V4.cmp x.lo.v x.hi.v then [Bnd.nothing] else [x.lo, x.hi]
def normalR (all : List (List Bnd)) : List Bnd := normalE (endsOf all.flatten)
theorem endsOf_snoc (bs : List Bnd) (b : Bnd) : endsOf (bs ++ [b]) = (endsOf bs).add b := by
  unfold endsOf; rw [List.foldl_append]; rfl
theorem fix_ok (b : Bnd) : opOk b.fix.op = true := by
  unfold Bnd.fix
  split
  · assumption
  · decide
theorem fix_bounds (b : Bnd) : 1 ≤ b.fix.op ∧ b.fix.op ≤ 5 := by
  have := fix_ok b
  simpa [opOk] using this
/-- the ends' signs -/
theorem ends_ops (bs : List Bnd) : ((endsOf bs).lo.op = 0 ∨ (endsOf bs).lo.op = 4 ∨ (endsOf bs).lo.op = 5) ∧ ((endsOf bs).hi.op = 0 ∨ (endsOf bs).hi.op = 1 ∨ (endsOf bs).hi.op = 2) := by
  have key : ∀ n (bs : List Bnd), bs.length = n → ((endsOf bs).lo.op = 0 ∨ (endsOf bs).lo.op = 4 ∨ (endsOf bs).lo.op = 5) ∧ ((endsOf bs).hi.op = 0 ∨ (endsOf bs).hi.op = 1 ∨ (endsOf bs).hi.op = 2) := by
    intro n
    induction n with
    | zero => intro bs h; rw [List.eq_nil_of_length_eq_zero h]; exact ⟨.inl rfl, .inl rfl⟩
    | succ n ih =>
      intro bs h
      have hne : bs ≠ [] := by intro e; rw [e] at h; cases h
      obtain ⟨us, x, rfl⟩ : ∃ us x, bs = us ++ [x] := ⟨bs.dropLast, bs.getLast hne, (List.dropLast_concat_getLast hne).symm⟩
      have hu : us.length = n := by simp at h; omega
      obtain ⟨h1, h2⟩ := ih us hu
      rw [endsOf_snoc]
      have hf := fix_bounds x
      constructor
      · show (stepLo (endsOf us).lo x.fix).op = 0 ∨ (stepLo (endsOf us).lo x.fix).op = 4 ∨ (stepLo (endsOf us).lo x.fix).op = 5
        unfold stepLo
        split
        · split
          · unfold maxOp; split
            · right; left; rfl
            · right; right; show x.fix.op = 5; omega
          · exact h1
        · exact h1
      · show (stepHi (endsOf us).hi x.fix).op = 0 ∨ (stepHi (endsOf us).hi x.fix).op = 1 ∨ (stepHi (endsOf us).hi x.fix).op = 2
        unfold stepHi
        split
        · split
          · unfold minOp; split
            · right; right; rfl
            · right; left; show x.fix.op = 1; omega
          · exact h2
        · exact h2
  exact key _ bs rfl
/-- the ends' versions come from the bounds -/
theorem step_sz {P : V4 → Prop} (h0 : P V4.zero) (hn : P Bnd.nothing.v) (bs : List Bnd) (h : ∀ b ∈ bs, P b.v) : P (endsOf bs).lo.v ∧ P (endsOf bs).hi.v := by
  have key : ∀ (bs : List Bnd) (x : TwoEnds), P x.lo.v → P x.hi.v → (∀ b ∈ bs, P b.v) → P (bs.foldl TwoEnds.add x).lo.v ∧ P (bs.foldl TwoEnds.add x).hi.v := by
    intro bs
    induction bs with
    | nil => intro x h1 h2 _; exact ⟨h1, h2⟩
    | cons b bs ih =>
      intro x h1 h2 h
      have hb : P b.fix.v := by
        unfold Bnd.fix
        split
        · exact h b (by simp)
        · exact hn
      refine ih _ ?_ ?_ (fun c hc => h c (by simp [hc]))
      · show P (stepLo _ _).v
        unfold stepLo
        split
        · split
          · exact hb
          · exact h1
        · exact h1
      · show P (stepHi _ _).v
        unfold stepHi
        split
        · split
          · exact hb
          · exact h2
        · exact h2
  exact key bs TwoEnds.zero h0 h0 h
/-! the reference's: the best of a list -/
def better (way strict : Int) (x y : Bnd) : Bool := decide (0 < way * V4.cmp y.v x.v) || (decide (way * V4.cmp y.v x.v = 0) && decide (y.op = strict) && decide (x.op ≠ strict))
def bestR (way strict : Int) : List Bnd → Bnd
  | [] => Bnd.zero
  | b :: bs => bs.foldl (fun x y => if better way strict x y then y else x) b
theorem bestR_snoc (way strict : Int) (bs : List Bnd) (y : Bnd) (h : bs ≠ []) : bestR way strict (bs ++ [y]) = if better way strict (bestR way strict bs) y then y else bestR way strict bs := by
  cases bs with
  | nil => exact absurd rfl h
  | cons b bs =>
    show List.foldl _ b (bs ++ [y]) = _
    rw [List.foldl_append]; rfl
def lows (bs : List Bnd) : List Bnd := (bs.map Bnd.fix).filter fun b => decide (3 ≤ b.op)
def highs (bs : List Bnd) : List Bnd := (bs.map Bnd.fix).filter fun b => decide (b.op ≤ 3)
theorem lows_snoc (bs : List Bnd) (b : Bnd) : lows (bs ++ [b]) = if 3 ≤ b.fix.op then lows bs ++ [b.fix] else lows bs := by
  unfold lows
  rw [List.map_append, List.filter_append]
  by_cases h : 3 ≤ b.fix.op
  · simp [h]
  · simp [h]
theorem highs_snoc (bs : List Bnd) (b : Bnd) : highs (bs ++ [b]) = if b.fix.op ≤ 3 then highs bs ++ [b.fix] else highs bs := by
  unfold highs
  rw [List.map_append, List.filter_append]
  by_cases h : b.fix.op ≤ 3
  · simp [h]
  · simp [h]
def toLo (b : Bnd) : Bnd := if b.op = 3 then ⟨4, b.v⟩ else b
def toHi (b : Bnd) : Bnd := if b.op = 3 then ⟨2, b.v⟩ else b
theorem toLo_max {b : Bnd} (h : 3 ≤ b.op) : toLo b = ⟨maxOp b.op, b.v⟩ := by
  unfold toLo maxOp
  by_cases h3 : b.op = 3
  · rw [if_pos h3, if_pos (by omega)]
  · rw [if_neg h3]
    split
    · have : b.op = 4 := by omega
      rw [← this]
    · rfl
theorem toHi_min {b : Bnd} (h : b.op ≤ 3) : toHi b = ⟨minOp b.op, b.v⟩ := by
  unfold toHi minOp
  by_cases h3 : b.op = 3
  · rw [if_pos h3, if_pos (by omega)]
  · rw [if_neg h3]
    split
    · have : b.op = 2 := by omega
      rw [← this]
    · rfl
theorem ends_best (bs : List Bnd) : (endsOf bs).lo = toLo (bestR 1 5 (lows bs)) ∧ (endsOf bs).hi = toHi (bestR (-1) 1 (highs bs)) ∧ (∀ b ∈ lows bs, 3 ≤ b.op ∧ b.op ≤ 5) ∧ (∀ b ∈ highs bs, 1 ≤ b.op ∧ b.op ≤ 3) ∧
    (lows bs ≠ [] → 3 ≤ (bestR 1 5 (lows bs)).op ∧ (bestR 1 5 (lows bs)).op ≤ 5) ∧ (highs bs ≠ [] → 1 ≤ (bestR (-1) 1 (highs bs)).op ∧ (bestR (-1) 1 (highs bs)).op ≤ 3) := by
  have key : ∀ n (bs : List Bnd), bs.length = n → (endsOf bs).lo = toLo (bestR 1 5 (lows bs)) ∧ (endsOf bs).hi = toHi (bestR (-1) 1 (highs bs)) ∧ (∀ b ∈ lows bs, 3 ≤ b.op ∧ b.op ≤ 5) ∧ (∀ b ∈ highs bs, 1 ≤ b.op ∧ b.op ≤ 3) ∧
    (lows bs ≠ [] → 3 ≤ (bestR 1 5 (lows bs)).op ∧ (bestR 1 5 (lows bs)).op ≤ 5) ∧ (highs bs ≠ [] → 1 ≤ (bestR (-1) 1 (highs bs)).op ∧ (bestR (-1) 1 (highs bs)).op ≤ 3) := by
    intro n
    induction n with
    | zero => intro bs h; rw [List.eq_nil_of_length_eq_zero h]; exact ⟨rfl, rfl, by simp [lows], by simp [highs], by simp [lows], by simp [highs]⟩
    | succ n ih =>
      intro bs h
      have hne : bs ≠ [] := by intro e; rw [e] at h; cases h
      obtain ⟨us, x, rfl⟩ : ∃ us x, bs = us ++ [x] := ⟨bs.dropLast, bs.getLast hne, (List.dropLast_concat_getLast hne).symm⟩
      have hu : us.length = n := by simp at h; omega
      obtain ⟨h1, h2, h3, h4, h5, h6⟩ := ih us hu
      have hf := fix_bounds x
      rw [endsOf_snoc, lows_snoc, highs_snoc]
      refine ⟨?_, ?_, ?_, ?_, ?_, ?_⟩
      · show stepLo _ _ = _
        unfold stepLo
        by_cases hx : 3 ≤ x.fix.op
        · rw [if_pos hx, if_pos hx]
          by_cases hl : lows us = []
          · rw [h1, hl]
            have : (toLo (bestR 1 5 [])).op = 0 := rfl
            rw [if_pos (.inl this)]
            exact (toLo_max hx).symm
          · have hb := h5 hl
            rw [bestR_snoc _ _ _ _ hl, h1]
            obtain ⟨y, hy⟩ : ∃ y, bestR 1 5 (lows us) = y := ⟨_, rfl⟩
            rw [hy] at hb ⊢
            have ev : (toLo y).v = y.v := by unfold toLo; split <;> rfl
            have eo : (toLo y).op ≠ 0 := by
              unfold toLo; split
              · show (4 : Int) ≠ 0; decide
              · omega
            have e4 : (toLo y).op = 4 ↔ y.op ≠ 5 := by
              unfold toLo; split
              · simp; omega
              · omega
            have e5 : maxOp x.fix.op = 5 ↔ x.fix.op = 5 := by unfold maxOp; split <;> omega
            rw [ev]
            by_cases hc : better 1 5 y x.fix = true
            · rw [if_pos hc, if_pos, toLo_max hx]
              unfold better at hc
              simp only [Int.one_mul, Bool.or_eq_true, Bool.and_eq_true, decide_eq_true_eq] at hc
              rcases hc with hc | ⟨⟨hc1, hc2⟩, hc3⟩
              · exact .inr (.inl hc)
              · exact .inr (.inr ⟨hc1, e5.2 hc2, e4.2 hc3⟩)
            · rw [if_neg hc, if_neg]
              rintro (hz | hz | ⟨hz1, hz2, hz3⟩)
              · exact eo hz
              · apply hc; unfold better; simp [hz]
              · apply hc; unfold better; simp [hz1, e5.1 hz2, e4.1 hz3]
        · rw [if_neg hx, if_neg hx]; exact h1
      · show stepHi _ _ = _
        unfold stepHi
        by_cases hx : x.fix.op ≤ 3
        · rw [if_pos hx, if_pos hx]
          by_cases hl : highs us = []
          · rw [h2, hl]
            have : (toHi (bestR (-1) 1 [])).op = 0 := rfl
            rw [if_pos (.inl this)]
            exact (toHi_min hx).symm
          · have hb := h6 hl
            rw [bestR_snoc _ _ _ _ hl, h2]
            obtain ⟨y, hy⟩ : ∃ y, bestR (-1) 1 (highs us) = y := ⟨_, rfl⟩
            rw [hy] at hb ⊢
            have ev : (toHi y).v = y.v := by unfold toHi; split <;> rfl
            have eo : (toHi y).op ≠ 0 := by
              unfold toHi; split
              · show (2 : Int) ≠ 0; decide
              · omega
            have e4 : (toHi y).op = 2 ↔ y.op ≠ 1 := by
              unfold toHi; split
              · simp; omega
              · omega
            have e5 : minOp x.fix.op = 1 ↔ x.fix.op = 1 := by unfold minOp; split <;> omega
            rw [ev]
            by_cases hc : better (-1) 1 y x.fix = true
            · rw [if_pos hc, if_pos, toHi_min hx]
              unfold better at hc
              simp only [Bool.or_eq_true, Bool.and_eq_true, decide_eq_true_eq] at hc
              rcases hc with hc | ⟨⟨hc1, hc2⟩, hc3⟩
              · exact .inr (.inl (by omega))
              · exact .inr (.inr ⟨by omega, e5.2 hc2, e4.2 hc3⟩)
            · rw [if_neg hc, if_neg]
              rintro (hz | hz | ⟨hz1, hz2, hz3⟩)
              · exact eo hz
              · apply hc; unfold better; have : 0 < -1 * V4.cmp x.fix.v y.v := by omega
                simp only [this, decide_true, Bool.true_or]
              · apply hc; unfold better; simp [hz1, e5.1 hz2, e4.1 hz3]
        · rw [if_neg hx, if_neg hx]; exact h2
      · split
        · intro b hb
          rcases List.mem_append.1 hb with hb | hb
          · exact h3 b hb
          · simp at hb; subst hb; omega
        · exact h3
      · split
        · intro b hb
          rcases List.mem_append.1 hb with hb | hb
          · exact h4 b hb
          · simp at hb; subst hb; omega
        · exact h4
      · intro hne2
        split at hne2
        · rename_i hx
          rw [if_pos hx]
          by_cases hl : lows us = []
          · rw [hl]; show 3 ≤ x.fix.op ∧ _; exact ⟨hx, hf.2⟩
          · rw [bestR_snoc _ _ _ _ hl]
            split
            · exact ⟨hx, hf.2⟩
            · exact h5 hl
        · rename_i hx
          rw [if_neg hx]; exact h5 hne2
      · intro hne2
        split at hne2
        · rename_i hx
          rw [if_pos hx]
          by_cases hl : highs us = []
          · rw [hl]; show 1 ≤ x.fix.op ∧ _; exact ⟨hf.1, hx⟩
          · rw [bestR_snoc _ _ _ _ hl]
            split
            · exact ⟨hf.1, hx⟩
            · exact h6 hl
        · rename_i hx
          rw [if_neg hx]; exact h6 hne2
  exact key _ bs rfl
end Go
