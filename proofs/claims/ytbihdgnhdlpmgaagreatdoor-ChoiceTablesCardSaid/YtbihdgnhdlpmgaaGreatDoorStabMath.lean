/- Sorting in place, plainly: exchanges, turned runs, insertion, and a merge of two runs that lie side by side; equal ones stay in their order. -/
import Derived.Test.YtbihdgnhdlpmgaaGreatDoorSemMath
namespace Go.Stab
section
variable {α : Type} {a b m : Nat} {f g h : Nat → α}
/-- the same ones between a and b; all else stands -/
def Perm (a b : Nat) (f g : Nat → α) : Prop :=
  ∃ σ : Nat → Nat, (∀ i, i < a ∨ b ≤ i → σ i = i) ∧ (∀ i, a ≤ i → i < b → a ≤ σ i ∧ σ i < b) ∧ (∀ i j, σ i = σ j → i = j) ∧ ∀ i, g i = f (σ i)
theorem Perm.refl (a b : Nat) (f : Nat → α) : Perm a b f f := ⟨id, fun _ _ => rfl, fun _ h1 h2 => ⟨h1, h2⟩, fun _ _ h => h, fun _ => rfl⟩
theorem Perm.trans (h1 : Perm a b f g) (h2 : Perm a b g h) : Perm a b f h := by
  obtain ⟨σ, s1, s2, s3, s4⟩ := h1
  obtain ⟨τ, t1, t2, t3, t4⟩ := h2
  refine ⟨fun i => σ (τ i), fun i hi => ?_, fun i p q => ?_, fun i j e => t3 _ _ (s3 _ _ e), fun i => ?_⟩
  · show σ (τ i) = i
    rw [t1 i hi, s1 i hi]
  · obtain ⟨p', q'⟩ := t2 i p q
    exact s2 _ p' q'
  · rw [t4, s4]
theorem Perm.mono (h1 : Perm a b f g) {a' b' : Nat} (ha : a' ≤ a) (hb : b ≤ b') : Perm a' b' f g := by
  obtain ⟨σ, s1, s2, s3, s4⟩ := h1
  refine ⟨σ, fun i hi => s1 i (by omega), fun i p q => ?_, s3, s4⟩
  by_cases hi : i < a ∨ b ≤ i
  · rw [s1 i hi]; exact ⟨p, q⟩
  · have := s2 i (by omega) (by omega); omega
theorem Perm.out (h1 : Perm a b f g) {i : Nat} (hi : i < a ∨ b ≤ i) : g i = f i := by
  obtain ⟨σ, s1, _, _, s4⟩ := h1
  rw [s4, s1 i hi]
theorem Perm.mem (h1 : Perm a b f g) {i : Nat} (p : a ≤ i) (q : i < b) : ∃ j, a ≤ j ∧ j < b ∧ g i = f j := by
  obtain ⟨σ, _, s2, _, s4⟩ := h1
  exact ⟨σ i, (s2 i p q).1, (s2 i p q).2, s4 i⟩
def swp (f : Nat → α) (x y : Nat) : Nat → α := fun i => if i = x then f y else if i = y then f x else f i
theorem perm_swp (f : Nat → α) {x y : Nat} (h1 : a ≤ x) (h2 : x < b) (h3 : a ≤ y) (h4 : y < b) : Perm a b f (swp f x y) := by
  obtain ⟨τ, hτ⟩ : ∃ τ : Nat → Nat, ∀ i, τ i = if i = x then y else if i = y then x else i := ⟨_, fun _ => rfl⟩
  have key : ∀ i, (τ i = y ∧ i = x) ∨ (τ i = x ∧ i = y ∧ i ≠ x) ∨ (τ i = i ∧ i ≠ x ∧ i ≠ y) := fun i => by
    rw [hτ]
    by_cases p : i = x
    · rw [if_pos p]; omega
    · rw [if_neg p]
      by_cases q : i = y
      · rw [if_pos q]; omega
      · rw [if_neg q]; omega
  refine ⟨τ, fun i hi => ?_, fun i p q => ?_, fun i j e => ?_, fun i => ?_⟩
  · have := key i; omega
  · have := key i; omega
  · have p := key i; have q := key j; omega
  · rw [hτ]
    unfold swp
    by_cases p : i = x
    · rw [if_pos p, if_pos p]
    · rw [if_neg p, if_neg p]
      by_cases q : i = y
      · rw [if_pos q, if_pos q]
      · rw [if_neg q, if_neg q]
/-- two runs of n change places -/
def swr (f : Nat → α) (a b n : Nat) : Nat → α := fun i => if a ≤ i ∧ i < a + n then f (i - a + b) else if b ≤ i ∧ i < b + n then f (i - b + a) else f i
theorem swr_zero (f : Nat → α) (a b : Nat) : swr f a b 0 = f := by
  funext i
  unfold swr
  repeat' split
  all_goals first | (exfalso; omega) | rfl | (congr 1; done) | (congr 1; omega)
theorem swr_step (f : Nat → α) {a b n : Nat} (h : a + n < b) : swp (swr f a b n) (a + n) (b + n) = swr f a b (n + 1) := by
  funext i
  unfold swp swr
  repeat' split
  all_goals first | (exfalso; omega) | rfl | (congr 1; done) | (congr 1; omega)
/-- the i ones ahead of m and the j ones from m on change places -/
def rot (f : Nat → α) (m i j : Nat) : Nat → α := fun t => if m ≤ t + i ∧ t + i < m + j then f (t + i) else if m + j ≤ t + i ∧ t < m + j then f (t - j) else f t
theorem rot_great (f : Nat → α) {m i j : Nat} (hi : i ≤ m) (h : j < i) : rot f m i j = rot (swr f (m - i) m j) m (i - j) j := by
  funext t
  unfold rot swr
  repeat' split
  all_goals first | (exfalso; omega) | rfl | (congr 1; done) | (congr 1; omega)
theorem rot_less (f : Nat → α) {m i j : Nat} (hi : i ≤ m) (h : i < j) : rot f m i j = rot (swr f (m - i) (m + j - i) i) m i (j - i) := by
  funext t
  unfold rot swr
  repeat' split
  all_goals first | (exfalso; omega) | rfl | (congr 1; done) | (congr 1; omega)
theorem rot_same (f : Nat → α) {m i : Nat} (hi : i ≤ m) : swr f (m - i) m i = rot f m i i := by
  funext t
  unfold rot swr
  repeat' split
  all_goals first | (exfalso; omega) | rfl | (congr 1; done) | (congr 1; omega)
theorem perm_rot (f : Nat → α) {m i j : Nat} (hi : i ≤ m) : Perm (m - i) (m + j) f (rot f m i j) := by
  obtain ⟨τ, hτ⟩ : ∃ τ : Nat → Nat, ∀ t, τ t = if m ≤ t + i ∧ t + i < m + j then t + i else if m + j ≤ t + i ∧ t < m + j then t - j else t := ⟨_, fun _ => rfl⟩
  have key : ∀ t, (τ t = t + i ∧ m ≤ t + i ∧ t + i < m + j) ∨ (τ t = t - j ∧ m + j ≤ t + i ∧ t < m + j) ∨ (τ t = t ∧ (t + i < m ∨ m + j ≤ t)) := fun t => by
    rw [hτ]
    by_cases p : m ≤ t + i ∧ t + i < m + j
    · rw [if_pos p]; omega
    · rw [if_neg p]
      by_cases q : m + j ≤ t + i ∧ t < m + j
      · rw [if_pos q]; omega
      · rw [if_neg q]; omega
  refine ⟨τ, fun t ht => ?_, fun t p q => ?_, fun s t e => ?_, fun t => ?_⟩
  · have := key t; omega
  · have := key t; omega
  · have p := key s; have q := key t; omega
  · rw [hτ]
    unfold rot
    by_cases p : m ≤ t + i ∧ t + i < m + j
    · rw [if_pos p, if_pos p]
    · rw [if_neg p, if_neg p]
      by_cases q : m + j ≤ t + i ∧ t < m + j
      · rw [if_pos q, if_pos q]
      · rw [if_neg q, if_neg q]
end
/-! the order: by a comparison, then by the place at the start -/
section
variable {β : Type} {cf : β → β → Int}
def lt (cf : β → β → Int) (x y : β × Nat) : Prop := cf x.1 y.1 < 0 ∨ (cf x.1 y.1 = 0 ∧ x.2 < y.2)
theorem lt_irrefl (h : OrdG cf) (x : β × Nat) : ¬ lt cf x x := by
  rintro (h1 | ⟨_, h1⟩)
  · have := h.self x.1; omega
  · omega
theorem lt_trans (h : OrdG cf) {x y z : β × Nat} (h1 : lt cf x y) (h2 : lt cf y z) : lt cf x z := by
  rcases h1 with h1 | ⟨h1, p⟩ <;> rcases h2 with h2 | ⟨h2, q⟩
  · exact .inl (h.lt_le h1 (by omega))
  · exact .inl (h.lt_le h1 (by omega))
  · exact .inl (h.le_lt (by omega) h2)
  · exact .inr ⟨h.eq_trans h1 h2, by omega⟩
theorem lt_or (h : OrdG cf) {x y : β × Nat} (hn : x.2 ≠ y.2) : lt cf x y ∨ lt cf y x := by
  have := h.1 x.1 y.1
  unfold lt
  by_cases h1 : cf x.1 y.1 < 0
  · exact .inl (.inl h1)
  · by_cases h2 : cf x.1 y.1 = 0
    · by_cases h3 : x.2 < y.2
      · exact .inl (.inr ⟨h2, h3⟩)
      · exact .inr (.inr ⟨by omega, by omega⟩)
    · exact .inr (.inl (by omega))
/-- where the one that stood ahead comes second, the comparison alone tells -/
theorem lt_back {x y : β × Nat} (h : x.2 < y.2) : lt cf y x ↔ cf y.1 x.1 < 0 := by
  unfold lt
  constructor
  · rintro (h1 | ⟨_, h1⟩)
    · exact h1
    · omega
  · exact .inl
theorem lt_not (h : OrdG cf) {x y : β × Nat} (hn : x.2 < y.2) (hc : ¬ cf y.1 x.1 < 0) : lt cf x y := by
  rcases lt_or h (x := x) (y := y) (by omega) with h1 | h1
  · exact h1
  · exact absurd ((lt_back hn).1 h1) hc
/-- in order between a and b -/
def Srt (cf : β → β → Int) (a b : Nat) (f : Nat → β × Nat) : Prop := ∀ i j, a ≤ i → i < j → j < b → lt cf (f i) (f j)
theorem Srt.sub {a b a' b' : Nat} {f : Nat → β × Nat} (h : Srt cf a b f) (ha : a ≤ a') (hb : b' ≤ b) : Srt cf a' b' f := fun i j p q r => h i j (by omega) q (by omega)
theorem Srt.congr {a b : Nat} {f g : Nat → β × Nat} (h : Srt cf a b f) (e : ∀ i, a ≤ i → i < b → g i = f i) : Srt cf a b g := fun i j p q r => by rw [e i p (by omega), e j (by omega) r]; exact h i j p q r
/-! insertion -/
/-- all between a and i (i itself too) in order but for the one at j, which is below all behind it -/
def Hole (cf : β → β → Int) (a i j : Nat) (f : Nat → β × Nat) : Prop :=
  (∀ p q, a ≤ p → p < q → q ≤ i → p ≠ j → q ≠ j → lt cf (f p) (f q)) ∧ (∀ q, j < q → q ≤ i → lt cf (f j) (f q))
theorem hole_start {a i : Nat} {f : Nat → β × Nat} (h : Srt cf a i f) : Hole cf a i i f := ⟨fun p q h1 h2 h3 h4 h5 => h p q h1 h2 (by omega), fun q h1 h2 => by omega⟩
theorem hole_step {a i j : Nat} {f : Nat → β × Nat} (h : Hole cf a i j f) (ha : a < j) (hj : j ≤ i) (hl : lt cf (f j) (f (j - 1))) : Hole cf a i (j - 1) (swp f j (j - 1)) := by
  have e1 : swp f j (j - 1) (j - 1) = f j := by unfold swp; rw [if_neg (by omega), if_pos rfl]
  have e2 : swp f j (j - 1) j = f (j - 1) := by unfold swp; rw [if_pos rfl]
  have e3 : ∀ t, t ≠ j → t ≠ j - 1 → swp f j (j - 1) t = f t := fun t h1 h2 => by unfold swp; rw [if_neg h1, if_neg h2]
  refine ⟨fun p q h1 h2 h3 h4 h5 => ?_, fun q h1 h2 => ?_⟩
  · by_cases hp : p = j
    · subst hp
      rw [e2, e3 q (by omega) h5]
      exact h.1 (p - 1) q (by omega) (by omega) h3 (by omega) (by omega)
    · rw [e3 p hp h4]
      by_cases hq : q = j
      · subst hq
        rw [e2]
        exact h.1 p (q - 1) h1 (by omega) (by omega) hp (by omega)
      · rw [e3 q hq h5]
        exact h.1 p q h1 h2 h3 hp hq
  · rw [e1]
    by_cases hq : q = j
    · subst hq; rw [e2]; exact hl
    · rw [e3 q hq (by omega)]
      exact h.2 q (by omega) h2
theorem hole_end {a i j : Nat} {f : Nat → β × Nat} (ho : OrdG cf) (h : Hole cf a i j f) (hj : j ≤ i) (hl : j ≤ a ∨ lt cf (f (j - 1)) (f j)) : Srt cf a (i + 1) f := by
  intro p q h1 h2 h3
  by_cases hp : p = j
  · subst hp; exact h.2 q h2 (by omega)
  · by_cases hq : q = j
    · subst hq
      rcases hl with hl | hl
      · omega
      · by_cases he : p = q - 1
        · subst he; exact hl
        · exact lt_trans ho (h.1 p (q - 1) h1 (by omega) (by omega) hp (by omega)) hl
    · exact h.1 p q h1 h2 (by omega) hp hq
end
end Go.Stab
