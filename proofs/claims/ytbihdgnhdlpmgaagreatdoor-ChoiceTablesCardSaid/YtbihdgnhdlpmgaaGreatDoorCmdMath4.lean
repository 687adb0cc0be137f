/- The lines of a search in plain Lean: what a line asks for, what lines ask for, two texts of lines. -/
import Derived.Test.YtbihdgnhdlpmgaaGreatDoorCmdMath3
import Derived.Test.YtbihdgnhdlpmgaaGreatDoorRanMath2
namespace Go
open Classical in
/-- the version of a text -/
noncomputable def vparseF (l : List UInt8) : Option V4 := if h : ∃ v : V4, v.IsShow l then some h.choose else none
open Classical in
/-- the range of a text -/
noncomputable def rparseF (l : List UInt8) : Option (List Bnd) := if h : ∃ bs, RangeIs l bs then some h.choose else none
theorem vparseF_of {l : List UInt8} {a b c : Int} {p : List UInt8} {er : Int} (h : ParseIs l a b c p er) : (er = 0 ∧ vparseF l = some ⟨a, b, c, S p⟩) ∨ (er = 40 ∧ a = 0 ∧ b = 0 ∧ c = 0 ∧ p = [] ∧ vparseF l = none) := by
  rcases h with ⟨h, hs⟩ | ⟨h, h1, h2, h3, h4, hn⟩
  · refine .inl ⟨h, ?_⟩
    have hv : (⟨a, b, c, S p⟩ : V4).IsShow l := ⟨hs.1, hs.2⟩
    have he : ∃ v : V4, v.IsShow l := ⟨_, hv⟩
    unfold vparseF
    rw [dif_pos he]
    exact congrArg some (V4.isShow_inj he.choose_spec hv)
  · refine .inr ⟨h, h1, h2, h3, h4, ?_⟩
    unfold vparseF
    rw [dif_neg]
    rintro ⟨v, hv⟩
    exact hn _ _ _ _ ⟨hv.1, hv.2⟩
theorem rparseF_of {l : List UInt8} {bs : List Bnd} {er : Int} (h : RParseIs l bs er) : (er = 0 ∧ rparseF l = some bs) ∨ (er = 50 ∧ bs = [] ∧ rparseF l = none) := by
  rcases h with ⟨h, hs⟩ | ⟨h, h1, hn⟩
  · refine .inl ⟨h, ?_⟩
    have he : ∃ v, RangeIs l v := ⟨_, hs⟩
    unfold rparseF
    rw [dif_pos he]
    exact congrArg some (RangeIs.uniq he.choose_spec hs)
  · refine .inr ⟨h, h1, ?_⟩
    unfold rparseF
    rw [dif_neg]
    rintro ⟨v, hv⟩
    exact hn _ hv
theorem show_ne_nil {v : V4} : ¬ v.IsShow [] := by
  rintro ⟨_, h⟩
  obtain ⟨x, r, e, _⟩ := show_head v.a.toNat v.b.toNat v.c.toNat v.p.data.toList
  unfold V4.show at h
  rw [e] at h; cases h
theorem vparseF_nil : vparseF [] = none := by
  unfold vparseF
  rw [dif_neg]
  rintro ⟨v, hv⟩
  exact show_ne_nil hv
theorem rparseF_nil : rparseF [] = none := by
  unfold rparseF
  rw [dif_neg]
  rintro ⟨bs, ⟨h, _⟩ | ⟨_, _, h, _⟩ | ⟨h1, h2, h3⟩⟩
  · cases h
  · cases h
  · obtain ⟨x, r, e, _⟩ := showB_head h1 (rangeOk_all h2).2
    rw [h3] at e; cases e
/-- a need; a pick -/
structure Want where
  name : List UInt8
  bs : List Bnd
structure Pck where
  name : List UInt8
  v : V4
/-- what a line asks for -/
noncomputable def lineL (l : List UInt8) : Option (List Want × List Pck) :=
  if (headAt 32 l).head? = some 61 then
    match vparseF (tailAt 32 l) with
    | some v => if nameOk ((headAt 32 l).drop 1) then some ([], [⟨(headAt 32 l).drop 1, v⟩]) else none
    | none => none
  else
    match rparseF (tailAt 32 l) with
    | some bs => if nameOk (headAt 32 l) then some ([⟨headAt 32 l, bs⟩], []) else none
    | none => none
def both (a b : Option (List Want × List Pck)) : Option (List Want × List Pck) :=
  match a, b with
  | some a, some b => some (a.1 ++ b.1, a.2 ++ b.2)
  | _, _ => none
theorem both_none (a : Option (List Want × List Pck)) : both a none = none := by unfold both; cases a <;> rfl
theorem both_assoc (a b c : Option (List Want × List Pck)) : both (both a b) c = both a (both b c) := by
  cases a <;> cases b <;> cases c <;> simp [both]
noncomputable def linesL : List (List UInt8) → Option (List Want × List Pck)
  | [] => some ([], [])
  | l :: ls => both (lineL l) (linesL ls)
theorem linesL_app : ∀ xs ys : List (List UInt8), linesL (xs ++ ys) = both (linesL xs) (linesL ys)
  | [], ys => by
    rw [List.nil_append, linesL]
    unfold both
    cases linesL ys <;> rfl
  | x :: xs, ys => by rw [List.cons_append, linesL, linesL_app xs ys, linesL, both_assoc]
theorem linesL_snoc (xs : List (List UInt8)) (l : List UInt8) {ns : List Want} {ps : List Pck} {a : List Want × List Pck} (h : linesL xs = some (ns, ps)) (hl : lineL l = some a) : linesL (xs ++ [l]) = some (ns ++ a.1, ps ++ a.2) := by
  rw [linesL_app, h, linesL, hl, linesL]
  simp [both]
theorem linesL_bad {xs : List (List UInt8)} {k : Nat} (hk : k < xs.length) (h : lineL xs[k] = none) : linesL xs = none := by
  have e : xs = xs.take k ++ xs[k] :: xs.drop (k + 1) := by rw [← List.drop_eq_getElem_cons hk, List.take_append_drop]
  rw [e, linesL_app, linesL, h]
  cases linesL (xs.take k) <;> rfl
/-- the lines of a text -/
def linesOf (l : List UInt8) : List (List UInt8) := if l.isEmpty then [] else sepAt 10 (if l.getLast? = some 10 then l.dropLast else l)
noncomputable def asksL (l : List UInt8) : Option (List Want × List Pck) := linesL (linesOf l)
/-- the reference's lines: at each newline, but an empty last one -/
theorem sepAt_last (l : List UInt8) (hl : l ≠ []) : (sepAt 10 l).getLast? = some [] ↔ l.getLast? = some 10 := by
  obtain ⟨l, y, rfl⟩ : ∃ m y, l = m ++ [y] := ⟨l.dropLast, l.getLast hl, (List.dropLast_concat_getLast hl).symm⟩
  rw [sepAt_snoc]
  unfold sepSnoc
  by_cases h : y = 10
  · subst h; simp
  · rw [if_neg h]
    simp [h]
theorem linesOf_ref (l : List UInt8) : linesOf l = if (sepAt 10 l).getLast? = some [] then (sepAt 10 l).dropLast else sepAt 10 l := by
  unfold linesOf
  cases l with
  | nil => rfl
  | cons a m =>
    have hne : a :: m ≠ [] := by simp
    rw [show (a :: m).isEmpty = false from rfl]
    simp only [Bool.false_eq_true, if_false]
    generalize a :: m = l at hne
    by_cases h : l.getLast? = some 10
    · rw [if_pos h, if_pos ((sepAt_last l hne).2 h)]
      obtain ⟨q, rfl⟩ : ∃ q, l = q ++ [10] := by
        refine ⟨l.dropLast, ?_⟩
        have := List.dropLast_concat_getLast hne
        rw [List.getLast?_eq_some_getLast hne] at h
        injection h with h
        rw [h] at this
        exact this.symm
      rw [sepAt_snoc]
      simp [sepSnoc]
    · rw [if_neg h, if_neg (fun e => h ((sepAt_last l hne).1 e))]
theorem linesOf_count (l : List UInt8) : (linesOf l).length ≤ l.length + 1 := by
  rw [linesOf_ref]
  have h := sepAt_count 10 l
  have h2 := List.count_le_length (a := (10 : UInt8)) (l := l)
  split
  · rw [List.length_dropLast]; omega
  · omega
theorem linesOf_size (l : List UInt8) : ∀ p ∈ linesOf l, p.length ≤ l.length := by
  rw [linesOf_ref]
  intro p hp
  split at hp
  · exact sepAt_size 10 l p (by rw [List.dropLast_eq_take] at hp; exact List.mem_of_mem_take hp)
  · exact sepAt_size 10 l p hp
theorem sepAt_both (c : UInt8) : ∀ (a b : List UInt8), sepAt c (a ++ c :: b) = sepAt c a ++ sepAt c b
  | [], b => by simp [sepAt]
  | x :: a, b => by
    rw [List.cons_append, sepAt, sepAt_both c a b, sepAt]
    by_cases h : x = c
    · rw [if_pos h, if_pos h]; rfl
    · rw [if_neg h, if_neg h]
      cases hs : sepAt c a with
      | nil => exact absurd hs (sepAt_ne c a)
      | cons p ps => rfl
theorem linesOf_both {a b : List UInt8} (ha : a ≠ []) (hl : a.getLast? ≠ some 10) : linesOf (a ++ 10 :: b) = linesOf a ++ linesOf b := by
  have e1 : linesOf a = sepAt 10 a := by
    unfold linesOf
    rw [show a.isEmpty = false by cases a; exact absurd rfl ha; rfl, if_neg (by decide), if_neg hl]
  rw [e1]
  unfold linesOf
  rw [show (a ++ 10 :: b).isEmpty = false by cases a <;> rfl]
  simp only [Bool.false_eq_true, if_false]
  cases b with
  | nil => simp
  | cons x b =>
    rw [show (x :: b).isEmpty = false from rfl]
    simp only [Bool.false_eq_true, if_false]
    have hg : (a ++ 10 :: x :: b).getLast? = (x :: b).getLast? := by
      rw [show a ++ 10 :: x :: b = (a ++ [10]) ++ (x :: b) by simp, List.getLast?_append, List.getLast?_eq_some_getLast (show x :: b ≠ [] by simp)]; rfl
    rw [hg]
    by_cases h : (x :: b).getLast? = some 10
    · rw [if_pos h, if_pos h]
      have : (a ++ 10 :: x :: b).dropLast = a ++ 10 :: (x :: b).dropLast := by
        rw [show a ++ 10 :: x :: b = (a ++ [10]) ++ (x :: b) by simp, List.dropLast_append_of_ne_nil (by simp)]
        simp
      rw [this, sepAt_both]
    · rw [if_neg h, if_neg h, sepAt_both]
theorem asksL_both {a b : List UInt8} (ha : a ≠ []) (hl : a.getLast? ≠ some 10) : asksL (a ++ 10 :: b) = both (asksL a) (asksL b) := by
  unfold asksL
  rw [linesOf_both ha hl, linesL_app]
end Go
