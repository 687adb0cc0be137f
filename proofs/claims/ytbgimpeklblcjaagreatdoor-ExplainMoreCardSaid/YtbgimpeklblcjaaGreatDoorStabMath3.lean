/- Sorting in place, plainly: runs of one length, merged two by two. -/
import Derived.Test.YtbgimpeklblcjaaGreatDoorStabPlain
namespace Go.Stab
section
variable {β : Type} {cf : β → β → Int}
def Start (bs x : Nat) : Prop := ∃ j, x = j * bs
theorem start_zero (bs : Nat) : Start bs 0 := ⟨0, by simp⟩
theorem Start.next {bs x : Nat} (h : Start bs x) : Start bs (x + bs) := by
 obtain ⟨j, rfl⟩ := h
 exact ⟨j + 1, by rw [Nat.add_mul, Nat.one_mul]⟩
theorem Start.half {bs x : Nat} (h : Start (2 * bs) x) : Start bs x := by
 obtain ⟨j, rfl⟩ := h
 exact ⟨j * 2, by rw [Nat.mul_assoc]⟩
theorem Start.apart {bs x y : Nat} (h : Start bs x) (h' : Start bs y) (hl : x < y) : x + bs ≤ y := by
 obtain ⟨j, rfl⟩ := h
 obtain ⟨i, rfl⟩ := h'
 have : j < i := Nat.lt_of_mul_lt_mul_right hl
 have := Nat.mul_le_mul_right bs (show j + 1 ≤ i from this)
 rwa [Nat.add_mul, Nat.one_mul] at this
/-- the run from x on is in order, and holds what stood there -/
def RunOk (cf : β → β → Int) (n bs : Nat) (f k : Nat → β × Nat) (x : Nat) : Prop :=
 Srt cf x (min (x + bs) n) k ∧ ∀ t, x ≤ t → t < x + bs → t < n → ∃ t', x ≤ t' ∧ t' < x + bs ∧ t' < n ∧ k t = f t'
theorem RunOk.perm {n bs x a b : Nat} {f k k' : Nat → β × Nat} (h : RunOk cf n bs f k x) (hp : Perm a b k k') (ho : b ≤ x ∨ x + bs ≤ a) : RunOk cf n bs f k' x := by
 obtain ⟨h1, h2⟩ := h
 refine ⟨h1.congr fun i p q => hp.out (by omega), fun t p q r => ?_⟩
 rw [hp.out (by omega)]; exact h2 t p q r
/-- all runs -/
def Level (cf : β → β → Int) (n bs : Nat) (f k : Nat → β × Nat) : Prop := (∀ x, Start bs x → RunOk cf n bs f k x) ∧ Perm 0 n f k
/-- the runs ahead of x merged already -/
def Pass (cf : β → β → Int) (n bs : Nat) (f : Nat → β × Nat) (x : Nat) (k : Nat → β × Nat) : Prop :=
 Start (2 * bs) x ∧ (∀ y, Start (2 * bs) y → y < x → RunOk cf n (2 * bs) f k y) ∧ (∀ y, Start bs y → x ≤ y → RunOk cf n bs f k y) ∧ Perm 0 n f k
theorem pass_start {n bs : Nat} {f k : Nat → β × Nat} (h : Level cf n bs f k) : Pass cf n bs f 0 k := ⟨start_zero _, fun y _ h => by omega, fun y hy _ => h.1 y hy, h.2⟩
/-- two runs may be merged -/
theorem pass_runs {n bs x b : Nat} {f k : Nat → β × Nat} (hi : ∀ p q, p < q → q < n → (f p).2 < (f q).2) (h : Pass cf n bs f x k) (hm : x + bs ≤ n) (hb : b ≤ x + bs + bs) (hn : b ≤ n) : Runs cf x (x + bs) b k := by
 obtain ⟨h1, _, h3, _⟩ := h
 obtain ⟨r1, r2⟩ := h3 x h1.half (Nat.le_refl _)
 obtain ⟨q1, q2⟩ := h3 (x + bs) h1.half.next (by omega)
 refine ⟨r1.sub (Nat.le_refl _) (by omega), q1.sub (Nat.le_refl _) (by omega), fun i j p1 p2 p3 p4 => ?_⟩
 obtain ⟨i', i1, i2, i3, ei⟩ := r2 i p1 p2 (by omega)
 obtain ⟨j', j1, j2, j3, ej⟩ := q2 j p3 (by omega) (by omega)
 rw [ei, ej]; exact hi i' j' (by omega) j3
theorem two_runs {n bs x : Nat} {f k k' : Nat → β × Nat} {b : Nat} (h : Pass cf n bs f x k) (hp : Perm x b k k') (hb : b ≤ x + 2 * bs) (hbn : b = min (x + 2 * bs) n) (hs : Srt cf x b k') : RunOk cf n (2 * bs) f k' x := by
 obtain ⟨h1, _, h3, _⟩ := h
 refine ⟨by rw [← hbn]; exact hs, fun t p q r => ?_⟩
 obtain ⟨s, s1, s2, es⟩ := hp.mem p (show t < b by omega)
 rw [es]
 by_cases hx : s < x + bs
 ·obtain ⟨u, u1, u2, u3, eu⟩ := (h3 x h1.half (Nat.le_refl _)).2 s s1 hx (by omega)
  exact ⟨u, u1, by omega, u3, eu⟩
 ·obtain ⟨u, u1, u2, u3, eu⟩ := (h3 (x + bs) h1.half.next (by omega)).2 s (by omega) (by omega) (by omega)
  exact ⟨u, by omega, by omega, u3, eu⟩
theorem pass_step {n bs x : Nat} {f k k' : Nat → β × Nat} (h : Pass cf n bs f x k) (hn : x + 2 * bs ≤ n) (hp : Perm x (x + 2 * bs) k k') (hs : Srt cf x (x + 2 * bs) k') : Pass cf n bs f (x + 2 * bs) k' := by
 have hr := two_runs h hp (Nat.le_refl _) (by omega) hs
 obtain ⟨h1, h2, h3, h4⟩ := h
 refine ⟨h1.next, fun y hy hl => ?_, fun y hy hl => (h3 y hy (by omega)).perm hp (.inl hl), h4.trans (hp.mono (Nat.zero_le _) hn)⟩
 by_cases hx : y < x
 ·exact (h2 y hy hx).perm hp (.inr (hy.apart h1 hx))
 ·by_cases he : y = x
  ·subst he; exact hr
  ·have := h1.apart hy (by omega); omega
/-- at the end: what is left of a pass -/
theorem pass_end {n bs x : Nat} {f k k' : Nat → β × Nat} (h : Pass cf n bs f x k) (hx : n < x + 2 * bs) (hp : Perm x (max x n) k k') (hs : Srt cf x n k') : Level cf n (2 * bs) f k' := by
 have hsub : Perm 0 n k k' := by
  by_cases hxn : x ≤ n
  ·rw [Nat.max_eq_right hxn] at hp; exact hp.mono (Nat.zero_le _) (Nat.le_refl _)
  ·rw [Nat.max_eq_left (by omega)] at hp
   obtain ⟨σ, s1, s2, s3, s4⟩ := hp
   refine ⟨σ, fun i hi => s1 i (by omega), fun i _ hi => by rw [s1 i (by omega)]; omega, s3, s4⟩
 refine ⟨fun y hy => ?_, h.2.2.2.trans hsub⟩
 by_cases hyx : y < x
 ·exact (h.2.1 y hy hyx).perm hp (.inr (hy.apart h.1 hyx))
 ·by_cases he : y = x
  ·subst he
   by_cases hxn : y ≤ n
   ·rw [Nat.max_eq_right hxn] at hp
    exact two_runs h hp (by omega) (by omega) hs
   ·exact ⟨fun i j p q r => by omega, fun t p q r => by omega⟩
  ·have := h.1.apart hy (by omega)
   exact ⟨fun i j p q r => by omega, fun t p q r => by omega⟩
/-- the last stretch needs no merge -/
theorem pass_short {n bs x : Nat} {f k : Nat → β × Nat} (h : Pass cf n bs f x k) (hx : n ≤ x + bs) : Srt cf x n k := by
 have := (h.2.2.1 x h.1.half (Nat.le_refl _)).1
 rw [Nat.min_eq_right hx] at this; exact this
theorem level_end {n bs : Nat} {f k : Nat → β × Nat} (h : Level cf n bs f k) (hn : n ≤ bs) : Perm 0 n f k ∧ Srt cf 0 n k := by
 have := (h.1 0 (start_zero _)).1
 rw [Nat.zero_add, Nat.min_eq_right hn] at this
 exact ⟨h.2, this⟩
/-! the first runs -/
def First (cf : β → β → Int) (n bs : Nat) (f : Nat → β × Nat) (x : Nat) (k : Nat → β × Nat) : Prop :=
 Start bs x ∧ x ≤ n ∧ (∀ y, Start bs y → y < x → RunOk cf n bs f k y) ∧ Perm 0 x f k
theorem first_start (n bs : Nat) (f : Nat → β × Nat) : First cf n bs f 0 f := ⟨start_zero _, Nat.zero_le _, fun y _ h => by omega, Perm.refl _ _ _⟩
theorem first_run {n bs x b : Nat} {f k k' : Nat → β × Nat} (h : First cf n bs f x k) (hp : Perm x b k k') (hb : b = min (x + bs) n) (hs : Srt cf x b k') : RunOk cf n bs f k' x := by
 refine ⟨by rw [← hb]; exact hs, fun t p q r => ?_⟩
 obtain ⟨s, s1, s2, es⟩ := hp.mem p (show t < b by omega)
 rw [es, h.2.2.2.out (.inr s1)]
 exact ⟨s, s1, by omega, by omega, rfl⟩
theorem first_step {n bs x : Nat} {f k k' : Nat → β × Nat} (h : First cf n bs f x k) (hn : x + bs ≤ n) (hp : Perm x (x + bs) k k') (hs : Srt cf x (x + bs) k') : First cf n bs f (x + bs) k' := by
 have hr := first_run h hp (by omega) hs
 obtain ⟨h1, h2, h3, h4⟩ := h
 refine ⟨h1.next, hn, fun y hy hl => ?_, (h4.mono (Nat.le_refl _) (by omega)).trans (hp.mono (Nat.zero_le _) (Nat.le_refl _))⟩
 by_cases hx : y < x
 ·exact (h3 y hy hx).perm hp (.inr (hy.apart h1 hx))
 ·by_cases he : y = x
  ·subst he; exact hr
  ·have := h1.apart hy (by omega); omega
theorem first_end {n bs x : Nat} {f k k' : Nat → β × Nat} (h : First cf n bs f x k) (hx : n < x + bs) (hp : Perm x n k k') (hs : Srt cf x n k') : Level cf n bs f k' := by
 have hr := first_run h hp (by have := h.2.1; omega) hs
 obtain ⟨h1, h2, h3, h4⟩ := h
 refine ⟨fun y hy => ?_, (h4.mono (Nat.le_refl _) h2).trans (hp.mono (Nat.zero_le _) (Nat.le_refl _))⟩
 by_cases hyx : y < x
 ·exact (h3 y hy hyx).perm hp (.inr (hy.apart h1 hyx))
 ·by_cases he : y = x
  ·subst he; exact hr
  ·have := h1.apart hy (by omega)
   exact ⟨fun i j p q r => by omega, fun t p q r => by omega⟩
theorem first_inc {n bs x b : Nat} {f k : Nat → β × Nat} (hi : ∀ p q, p < q → q < n → (f p).2 < (f q).2) (h : First cf n bs f x k) (hb : b ≤ n) : ∀ p q, x ≤ p → p < q → q < b → (k p).2 < (k q).2 := fun p q h1 h2 h3 => by
 rw [h.2.2.2.out (.inr h1), h.2.2.2.out (.inr (by omega))]; exact hi p q h2 (by omega)
end
end Go.Stab
