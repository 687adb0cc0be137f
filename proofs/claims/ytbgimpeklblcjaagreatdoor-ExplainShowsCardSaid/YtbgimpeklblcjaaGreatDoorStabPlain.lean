/- Sorting in place, plainly: exchanges, turned runs, insertion, and a merge of two runs that lie side by side; equal ones stay in their order. Sorting in place, plainly: a merge of two runs that lie side by side. -/
import Derived.Test.YtbgimpeklblcjaaGreatDoorSemMath
namespace Go.Stab
section
variable {α : Type} {a b m : Nat} {f g h : Nat → α}
/-- the same ones between a and b; all else stands -/
def Perm (a b : Nat) (f g : Nat → α) : Prop :=
 ∃ σ : Nat → Nat, (∀ i, i < a ∨ b ≤ i → σ i = i) ∧ (∀ i, a ≤ i → i < b → a ≤ σ i ∧ σ i < b) ∧ (∀ i j, σ i = σ j → i = j) ∧ ∀ i, g i = f (σ i)
theorem Perm.refl (a b : Nat) (f : Nat → α) : Perm a b f f := ⟨id, fun _ _ => rfl, fun _ h1 h2 => ⟨h1, h2⟩, fun _ _ h => h, fun _ => rfl⟩
theorem Perm.trans (h1 : Perm a b f g) (h2 : Perm a b g h) : Perm a b f h := by
 obtain ⟨σ, s1, s2, s3, s4⟩ := h1
 obtain ⟨τ, t1, t2, t3, t4⟩ := h2
 refine ⟨fun i => σ (τ i), fun i hi => ?_, fun i p q => ?_, fun i j e => t3 _ _ (s3 _ _ e), fun i => ?_⟩
 ·show σ (τ i) = i
  rw [t1 i hi, s1 i hi]
 ·obtain ⟨p', q'⟩ := t2 i p q
  exact s2 _ p' q'
 ·rw [t4, s4]
theorem Perm.mono (h1 : Perm a b f g) {a' b' : Nat} (ha : a' ≤ a) (hb : b ≤ b') : Perm a' b' f g := by
 obtain ⟨σ, s1, s2, s3, s4⟩ := h1
 refine ⟨σ, fun i hi => s1 i (by omega), fun i p q => ?_, s3, s4⟩
 by_cases hi : i < a ∨ b ≤ i
 ·rw [s1 i hi]; exact ⟨p, q⟩
 ·have := s2 i (by omega) (by omega); omega
theorem Perm.out (h1 : Perm a b f g) {i : Nat} (hi : i < a ∨ b ≤ i) : g i = f i := by
 obtain ⟨σ, s1, _, _, s4⟩ := h1
 rw [s4, s1 i hi]
theorem Perm.mem (h1 : Perm a b f g) {i : Nat} (p : a ≤ i) (q : i < b) : ∃ j, a ≤ j ∧ j < b ∧ g i = f j := by
 obtain ⟨σ, _, s2, _, s4⟩ := h1
 exact ⟨σ i, (s2 i p q).1, (s2 i p q).2, s4 i⟩
def swp (f : Nat → α) (x y : Nat) : Nat → α := fun i => if i = x then f y else if i = y then f x else f i
theorem perm_swp (f : Nat → α) {x y : Nat} (h1 : a ≤ x) (h2 : x < b) (h3 : a ≤ y) (h4 : y < b) : Perm a b f (swp f x y) := by
 obtain ⟨τ, hτ⟩ : ∃ τ : Nat → Nat, ∀ i, τ i = if i = x then y else if i = y then x else i := ⟨_, fun _ => rfl⟩
 have key : ∀ i, (τ i = y ∧ i = x) ∨ (τ i = x ∧ i = y ∧ i ≠ x) ∨ (τ i = i ∧ i ≠ x ∧ i ≠ y) := fun i => by
  rw [hτ]
  by_cases p : i = x
  ·rw [if_pos p]; omega
  ·rw [if_neg p]
   by_cases q : i = y
   ·rw [if_pos q]; omega
   ·rw [if_neg q]; omega
 refine ⟨τ, fun i hi => ?_, fun i p q => ?_, fun i j e => ?_, fun i => ?_⟩
 ·have := key i; omega
 ·have := key i; omega
 ·have p := key i; have q := key j; omega
 ·rw [hτ]
  unfold swp
  by_cases p : i = x
  ·rw [if_pos p, if_pos p]
  ·rw [if_neg p, if_neg p]
   by_cases q : i = y
   ·rw [if_pos q, if_pos q]
   ·rw [if_neg q, if_neg q]
/-- two runs of n change places -/
def swr (f : Nat → α) (a b n : Nat) : Nat → α := fun i => if a ≤ i ∧ i < a + n then f (i - a + b) else if b ≤ i ∧ i < b + n then f (i - b + a) else f i
theorem swr_zero (f : Nat → α) (a b : Nat) : swr f a b 0 = f := by
 funext i
 unfold swr
 repeat' split
 all_goals first | (exfalso; omega) | rfl | (congr 1; done) | (congr 1; omega)
theorem swr_step (f : Nat → α) {a b n : Nat} (h : a + n < b) : swp (swr f a b n) (a + n) (b + n) = swr f a b (n + 1) := by
 funext i
 unfold swp swr
 repeat' split
 all_goals first | (exfalso; omega) | rfl | (congr 1; done) | (congr 1; omega)
/-- the i ones ahead of m and the j ones from m on change places -/
def rot (f : Nat → α) (m i j : Nat) : Nat → α := fun t => if m ≤ t + i ∧ t + i < m + j then f (t + i) else if m + j ≤ t + i ∧ t < m + j then f (t - j) else f t
theorem rot_great (f : Nat → α) {m i j : Nat} (hi : i ≤ m) (h : j < i) : rot f m i j = rot (swr f (m - i) m j) m (i - j) j := by
 funext t
 unfold rot swr
 repeat' split
 all_goals first | (exfalso; omega) | rfl | (congr 1; done) | (congr 1; omega)
theorem rot_less (f : Nat → α) {m i j : Nat} (hi : i ≤ m) (h : i < j) : rot f m i j = rot (swr f (m - i) (m + j - i) i) m i (j - i) := by
 funext t
 unfold rot swr
 repeat' split
 all_goals first | (exfalso; omega) | rfl | (congr 1; done) | (congr 1; omega)
theorem rot_same (f : Nat → α) {m i : Nat} (hi : i ≤ m) : swr f (m - i) m i = rot f m i i := by
 funext t
 unfold rot swr
 repeat' split
 all_goals first | (exfalso; omega) | rfl | (congr 1; done) | (congr 1; omega)
theorem perm_rot (f : Nat → α) {m i j : Nat} (hi : i ≤ m) : Perm (m - i) (m + j) f (rot f m i j) := by
 obtain ⟨τ, hτ⟩ : ∃ τ : Nat → Nat, ∀ t, τ t = if m ≤ t + i ∧ t + i < m + j then t + i else if m + j ≤ t + i ∧ t < m + j then t - j else t := ⟨_, fun _ => rfl⟩
 have key : ∀ t, (τ t = t + i ∧ m ≤ t + i ∧ t + i < m + j) ∨ (τ t = t - j ∧ m + j ≤ t + i ∧ t < m + j) ∨ (τ t = t ∧ (t + i < m ∨ m + j ≤ t)) := fun t => by
  rw [hτ]
  by_cases p : m ≤ t + i ∧ t + i < m + j
  ·rw [if_pos p]; omega
  ·rw [if_neg p]
   by_cases q : m + j ≤ t + i ∧ t < m + j
   ·rw [if_pos q]; omega
   ·rw [if_neg q]; omega
 refine ⟨τ, fun t ht => ?_, fun t p q => ?_, fun s t e => ?_, fun t => ?_⟩
 ·have := key t; omega
 ·have := key t; omega
 ·have p := key s; have q := key t; omega
 ·rw [hτ]
  unfold rot
  by_cases p : m ≤ t + i ∧ t + i < m + j
  ·rw [if_pos p, if_pos p]
  ·rw [if_neg p, if_neg p]
   by_cases q : m + j ≤ t + i ∧ t < m + j
   ·rw [if_pos q, if_pos q]
   ·rw [if_neg q, if_neg q]
end
/-! the order: by a comparison, then by the place at the start -/
section
variable {β : Type} {cf : β → β → Int}
def lt (cf : β → β → Int) (x y : β × Nat) : Prop := cf x.1 y.1 < 0 ∨ (cf x.1 y.1 = 0 ∧ x.2 < y.2)
theorem lt_irrefl (h : OrdG cf) (x : β × Nat) : ¬ lt cf x x := by
 rintro (h1 | ⟨_, h1⟩)
 ·have := h.self x.1; omega
 ·omega
theorem lt_trans (h : OrdG cf) {x y z : β × Nat} (h1 : lt cf x y) (h2 : lt cf y z) : lt cf x z := by
 rcases h1 with h1 | ⟨h1, p⟩ <;> rcases h2 with h2 | ⟨h2, q⟩
 ·exact .inl (h.lt_le h1 (by omega))
 ·exact .inl (h.lt_le h1 (by omega))
 ·exact .inl (h.le_lt (by omega) h2)
 ·exact .inr ⟨h.eq_trans h1 h2, by omega⟩
theorem lt_or (h : OrdG cf) {x y : β × Nat} (hn : x.2 ≠ y.2) : lt cf x y ∨ lt cf y x := by
 have := h.1 x.1 y.1
 unfold lt
 by_cases h1 : cf x.1 y.1 < 0
 ·exact .inl (.inl h1)
 ·by_cases h2 : cf x.1 y.1 = 0
  ·by_cases h3 : x.2 < y.2
   ·exact .inl (.inr ⟨h2, h3⟩)
   ·exact .inr (.inr ⟨by omega, by omega⟩)
  ·exact .inr (.inl (by omega))
/-- where the one that stood ahead comes second, the comparison alone tells -/
theorem lt_back {x y : β × Nat} (h : x.2 < y.2) : lt cf y x ↔ cf y.1 x.1 < 0 := by
 unfold lt
 constructor
 ·rintro (h1 | ⟨_, h1⟩)
  ·exact h1
  ·omega
 ·exact .inl
theorem lt_not (h : OrdG cf) {x y : β × Nat} (hn : x.2 < y.2) (hc : ¬ cf y.1 x.1 < 0) : lt cf x y := by
 rcases lt_or h (x := x) (y := y) (by omega) with h1 | h1
 ·exact h1
 ·exact absurd ((lt_back hn).1 h1) hc
/-- in order between a and b -/
def Srt (cf : β → β → Int) (a b : Nat) (f : Nat → β × Nat) : Prop := ∀ i j, a ≤ i → i < j → j < b → lt cf (f i) (f j)
theorem Srt.sub {a b a' b' : Nat} {f : Nat → β × Nat} (h : Srt cf a b f) (ha : a ≤ a') (hb : b' ≤ b) : Srt cf a' b' f := fun i j p q r => h i j (by omega) q (by omega)
theorem Srt.congr {a b : Nat} {f g : Nat → β × Nat} (h : Srt cf a b f) (e : ∀ i, a ≤ i → i < b → g i = f i) : Srt cf a b g := fun i j p q r => by rw [e i p (by omega), e j (by omega) r]; exact h i j p q r
/-! insertion -/
/-- all between a and i (i itself too) in order but for the one at j, which is below all behind it -/
def Hole (cf : β → β → Int) (a i j : Nat) (f : Nat → β × Nat) : Prop :=
 (∀ p q, a ≤ p → p < q → q ≤ i → p ≠ j → q ≠ j → lt cf (f p) (f q)) ∧ (∀ q, j < q → q ≤ i → lt cf (f j) (f q))
theorem hole_start {a i : Nat} {f : Nat → β × Nat} (h : Srt cf a i f) : Hole cf a i i f := ⟨fun p q h1 h2 h3 h4 h5 => h p q h1 h2 (by omega), fun q h1 h2 => by omega⟩
theorem hole_step {a i j : Nat} {f : Nat → β × Nat} (h : Hole cf a i j f) (ha : a < j) (hj : j ≤ i) (hl : lt cf (f j) (f (j - 1))) : Hole cf a i (j - 1) (swp f j (j - 1)) := by
 have e1 : swp f j (j - 1) (j - 1) = f j := by unfold swp; rw [if_neg (by omega), if_pos rfl]
 have e2 : swp f j (j - 1) j = f (j - 1) := by unfold swp; rw [if_pos rfl]
 have e3 : ∀ t, t ≠ j → t ≠ j - 1 → swp f j (j - 1) t = f t := fun t h1 h2 => by unfold swp; rw [if_neg h1, if_neg h2]
 refine ⟨fun p q h1 h2 h3 h4 h5 => ?_, fun q h1 h2 => ?_⟩
 ·by_cases hp : p = j
  ·subst hp
   rw [e2, e3 q (by omega) h5]
   exact h.1 (p - 1) q (by omega) (by omega) h3 (by omega) (by omega)
  ·rw [e3 p hp h4]
   by_cases hq : q = j
   ·subst hq
    rw [e2]
    exact h.1 p (q - 1) h1 (by omega) (by omega) hp (by omega)
   ·rw [e3 q hq h5]
    exact h.1 p q h1 h2 h3 hp hq
 ·rw [e1]
  by_cases hq : q = j
  ·subst hq; rw [e2]; exact hl
  ·rw [e3 q hq (by omega)]
   exact h.2 q (by omega) h2
theorem hole_end {a i j : Nat} {f : Nat → β × Nat} (ho : OrdG cf) (h : Hole cf a i j f) (hj : j ≤ i) (hl : j ≤ a ∨ lt cf (f (j - 1)) (f j)) : Srt cf a (i + 1) f := by
 intro p q h1 h2 h3
 by_cases hp : p = j
 ·subst hp; exact h.2 q h2 (by omega)
 ·by_cases hq : q = j
  ·subst hq
   rcases hl with hl | hl
   ·omega
   ·by_cases he : p = q - 1
    ·subst he; exact hl
    ·exact lt_trans ho (h.1 p (q - 1) h1 (by omega) (by omega) hp (by omega)) hl
  ·exact h.1 p q h1 h2 (by omega) hp hq
end
end Go.Stab

namespace Go.Stab
section
variable {α : Type}
theorem rot_none (f : Nat → α) (m j : Nat) : rot f m 0 j = f := by
 funext t
 unfold rot
 repeat' split
 all_goals first | (exfalso; omega) | rfl | (congr 1; done) | (congr 1; omega)
theorem rot_none' (f : Nat → α) (m i : Nat) : rot f m i 0 = f := by
 funext t
 unfold rot
 repeat' split
 all_goals first | (exfalso; omega) | rfl | (congr 1; done) | (congr 1; omega)
theorem rot_up (f : Nat → α) (a c : Nat) : swp (rot f (a + 1) 1 c) (a + c) (a + c + 1) = rot f (a + 1) 1 (c + 1) := by
 funext t
 unfold swp rot
 repeat' split
 all_goals first | (exfalso; omega) | rfl | (congr 1; done) | (congr 1; omega)
theorem rot_dn (f : Nat → α) {m c : Nat} (h : c < m) : swp (rot f m c 1) (m - c) (m - c - 1) = rot f m (c + 1) 1 := by
 funext t
 unfold swp rot
 repeat' split
 all_goals first | (exfalso; omega) | rfl | (congr 1; done) | (congr 1; omega)
end
section
variable {β : Type} {cf : β → β → Int}
/-- two runs side by side; those of the first one stood ahead -/
def Runs (cf : β → β → Int) (a m b : Nat) (f : Nat → β × Nat) : Prop :=
 Srt cf a m f ∧ Srt cf m b f ∧ ∀ i j, a ≤ i → i < m → m ≤ j → j < b → (f i).2 < (f j).2
/-- where one goes among those of a run: all ahead of k are below it, all from l on above -/
def Seek (cf : β → β → Int) (lo hi : Nat) (f : Nat → β × Nat) (x : β × Nat) (k l : Nat) : Prop :=
 lo ≤ k ∧ k ≤ l ∧ l ≤ hi ∧ (∀ t, lo ≤ t → t < k → lt cf (f t) x) ∧ ∀ t, l ≤ t → t < hi → lt cf x (f t)
theorem seek_start (lo hi : Nat) (h : lo ≤ hi) (f : Nat → β × Nat) (x : β × Nat) : Seek cf lo hi f x lo hi := ⟨Nat.le_refl _, h, Nat.le_refl _, fun t h1 h2 => by omega, fun t h1 h2 => by omega⟩
theorem seek_up {lo hi k l h : Nat} {f : Nat → β × Nat} {x : β × Nat} (ho : OrdG cf) (hs : Srt cf lo hi f) (hk : Seek cf lo hi f x k l) (h1 : k ≤ h) (h2 : h < l) (hl : lt cf (f h) x) : Seek cf lo hi f x (h + 1) l := by
 obtain ⟨a1, a2, a3, a4, a5⟩ := hk
 refine ⟨by omega, by omega, a3, fun t p q => ?_, a5⟩
 by_cases e : t = h
 ·subst e; exact hl
 ·exact lt_trans ho (hs t h p (by omega) (by omega)) hl
theorem seek_dn {lo hi k l h : Nat} {f : Nat → β × Nat} {x : β × Nat} (ho : OrdG cf) (hs : Srt cf lo hi f) (hk : Seek cf lo hi f x k l) (h1 : k ≤ h) (h2 : h < l) (hl : lt cf x (f h)) : Seek cf lo hi f x k h := by
 obtain ⟨a1, a2, a3, a4, a5⟩ := hk
 refine ⟨a1, h1, by omega, a4, fun t p q => ?_⟩
 by_cases e : t = h
 ·subst e; exact hl
 ·exact lt_trans ho hl (hs h t (by omega) (by omega) q)
/-- a run of one ahead of a run -/
theorem merge_left {a b k : Nat} {f : Nat → β × Nat} (hs : Srt cf (a + 1) b f) (hk : Seek cf (a + 1) b f (f a) k k) : Srt cf a b (rot f (a + 1) 1 (k - (a + 1))) := by
 obtain ⟨a1, _, a3, a4, a5⟩ := hk
 have e1 : ∀ t, a ≤ t → t + 1 < k → rot f (a + 1) 1 (k - (a + 1)) t = f (t + 1) := fun t h1 h2 => by unfold rot; rw [if_pos (by omega)]
 have e2 : rot f (a + 1) 1 (k - (a + 1)) (k - 1) = f a := by
  unfold rot
  rw [if_neg (by omega)]
  by_cases h : k = a + 1
  ·subst h
   rw [if_pos (by omega)]; congr 1; omega
  ·rw [if_pos (by omega)]; congr 1; omega
 have e3 : ∀ t, k ≤ t → rot f (a + 1) 1 (k - (a + 1)) t = f t := fun t h1 => by unfold rot; rw [if_neg (by omega), if_neg (by omega)]
 intro i j h1 h2 h3
 by_cases hi : i + 1 < k
 ·rw [e1 i h1 hi]
  by_cases hj : j + 1 < k
  ·rw [e1 j (by omega) hj]; exact hs _ _ (by omega) (by omega) (by omega)
  ·by_cases hj' : j = k - 1
   ·subst hj'; rw [e2]; exact a4 _ (by omega) (by omega)
   ·rw [e3 j (by omega)]; exact hs _ _ (by omega) (by omega) (by omega)
 ·by_cases hi' : i = k - 1
  ·subst hi'
   rw [e2, e3 j (by omega)]; exact a5 _ (by omega) h3
  ·rw [e3 i (by omega), e3 j (by omega)]; exact hs _ _ (by omega) h2 h3
/-- a run of one behind a run -/
theorem merge_right {a m k : Nat} {f : Nat → β × Nat} (hs : Srt cf a m f) (hk : Seek cf a m f (f m) k k) : Srt cf a (m + 1) (rot f m (m - k) 1) := by
 obtain ⟨a1, _, a3, a4, a5⟩ := hk
 have e1 : ∀ t, t < k → rot f m (m - k) 1 t = f t := fun t h1 => by unfold rot; rw [if_neg (by omega), if_neg (by omega)]
 have e2 : rot f m (m - k) 1 k = f m := by unfold rot; rw [if_pos (by omega)]; congr 1; omega
 have e3 : ∀ t, k < t → t < m + 1 → rot f m (m - k) 1 t = f (t - 1) := fun t h1 h2 => by unfold rot; rw [if_neg (by omega), if_pos (by omega)]
 intro i j h1 h2 h3
 by_cases hi : i < k
 ·rw [e1 i hi]
  by_cases hj : j < k
  ·rw [e1 j hj]; exact hs _ _ h1 h2 (by omega)
  ·by_cases hj' : j = k
   ·subst hj'; rw [e2]; exact a4 _ h1 hi
   ·rw [e3 j (by omega) h3]; exact hs _ _ h1 (by omega) (by omega)
 ·by_cases hi' : i = k
  ·subst hi'
   rw [e2, e3 j (by omega) h3]; exact a5 _ (by omega) (by omega)
  ·rw [e3 i (by omega) (by omega), e3 j (by omega) h3]; exact hs _ _ (by omega) (by omega) (by omega)
/-- the middle's cut -/
def Cut (cf : β → β → Int) (n st r0 : Nat) (f : Nat → β × Nat) (k l : Nat) : Prop :=
 st ≤ k ∧ k ≤ l ∧ l ≤ r0 ∧ (∀ c, st ≤ c → c < k → lt cf (f c) (f (n - 1 - c))) ∧ ∀ c, l ≤ c → c < r0 → lt cf (f (n - 1 - c)) (f c)
/-- the numbers of a cut -/
structure Nums (a m b mid n st r0 : Nat) : Prop where
 am : a < m
 mb : m < b
 mid1 : a + b ≤ 2 * mid + 1
 mid2 : 2 * mid ≤ a + b
 n1 : n = mid + m
 c : (mid < m ∧ st + b = n ∧ r0 = mid) ∨ (m ≤ mid ∧ st = a ∧ r0 = m)
theorem cut_start {a m b mid n st r0 : Nat} (h : Nums a m b mid n st r0) (f : Nat → β × Nat) : Cut cf n st r0 f st r0 := by
 obtain ⟨h1, h2, h3, h4, h5, h6⟩ := h
 exact ⟨Nat.le_refl _, by omega, Nat.le_refl _, fun c p q => by omega, fun c p q => by omega⟩
theorem cut_in {a m b mid n st r0 c : Nat} (h : Nums a m b mid n st r0) (h1 : st ≤ c) (h2 : c < r0) : a ≤ c ∧ c < m ∧ m ≤ n - 1 - c ∧ n - 1 - c < b ∧ c < n := by
 obtain ⟨g1, g2, g3, g4, g5, g6⟩ := h
 omega
theorem cut_up {a m b mid n st r0 k l c : Nat} {f : Nat → β × Nat} (ho : OrdG cf) (hn : Nums a m b mid n st r0) (hr : Runs cf a m b f) (hk : Cut cf n st r0 f k l) (h1 : k ≤ c) (h2 : c < l) (hl : lt cf (f c) (f (n - 1 - c))) : Cut cf n st r0 f (c + 1) l := by
 obtain ⟨a1, a2, a3, a4, a5⟩ := hk
 refine ⟨by omega, by omega, a3, fun t p q => ?_, a5⟩
 by_cases e : t = c
 ·subst e; exact hl
 ·obtain ⟨b1, b2, b3, b4, b5⟩ := cut_in hn p (by omega)
  obtain ⟨c1, c2, c3, c4, c5⟩ := cut_in hn (show st ≤ c by omega) (by omega)
  exact lt_trans ho (lt_trans ho (hr.1 t c b1 (by omega) c2) hl) (hr.2.1 _ _ c3 (by omega) b4)
theorem cut_dn {a m b mid n st r0 k l c : Nat} {f : Nat → β × Nat} (ho : OrdG cf) (hn : Nums a m b mid n st r0) (hr : Runs cf a m b f) (hk : Cut cf n st r0 f k l) (h1 : k ≤ c) (h2 : c < l) (hl : lt cf (f (n - 1 - c)) (f c)) : Cut cf n st r0 f k c := by
 obtain ⟨a1, a2, a3, a4, a5⟩ := hk
 refine ⟨a1, h1, by omega, a4, fun t p q => ?_⟩
 by_cases e : t = c
 ·subst e; exact hl
 ·obtain ⟨b1, b2, b3, b4, b5⟩ := cut_in hn (show st ≤ t by omega) q
  obtain ⟨c1, c2, c3, c4, c5⟩ := cut_in hn (show st ≤ c by omega) (by omega)
  exact lt_trans ho (lt_trans ho (hr.2.1 _ _ b3 (by omega) c4) hl) (hr.1 c t c1 (by omega) b2)
/-- behind the cut and the turn: two merges that have nothing to do with each other -/
structure Halves (cf : β → β → Int) (a s mid e b : Nat) (g : Nat → β × Nat) : Prop where
 as : a ≤ s
 sm : s ≤ mid
 me : mid ≤ e
 eb : e ≤ b
 left : Runs cf a s mid g
 right : Runs cf mid e b g
 cross : ∀ i j, a ≤ i → i < mid → mid ≤ j → j < b → lt cf (g i) (g j)
theorem cut_halves {a m b mid n st r0 s : Nat} {f : Nat → β × Nat} (ho : OrdG cf) (hn : Nums a m b mid n st r0) (hr : Runs cf a m b f) (hk : Cut cf n st r0 f s s) :
  s ≤ m ∧ m ≤ n - s ∧ Halves cf a s mid (n - s) b (rot f m (m - s) (n - s - m)) := by
 obtain ⟨a1, _, a3, a4, a5⟩ := hk
 have hlo : st < s → lt cf (f (s - 1)) (f (n - s)) := fun h => by
  have := a4 (s - 1) (by omega) (by omega)
  rwa [show n - 1 - (s - 1) = n - s by omega] at this
 have hhi : s < r0 → lt cf (f (n - s - 1)) (f s) := fun h => by
  have := a5 s (Nat.le_refl _) h
  rwa [show n - 1 - s = n - s - 1 by omega] at this
 obtain ⟨g1, g2, g3, g4, g5, g6⟩ := hn
 obtain ⟨r1, r2, r3⟩ := hr
 have hsm : s ≤ m := by omega
 have hme : m ≤ n - s := by omega
 have heb : n - s ≤ b := by omega
 have hsmid : s ≤ mid := by omega
 have hmide : mid ≤ n - s := by omega
 have has : a ≤ s := by omega
 have hsum : s + (n - s - m) = mid := by omega
 obtain ⟨e, he⟩ : ∃ e, n - s = e := ⟨_, rfl⟩
 rw [he] at hlo hhi hme heb hmide hsum ⊢
 have k1 : ∀ t, t < s → rot f m (m - s) (e - m) t = f t := fun t h => by unfold rot; rw [if_neg (by omega), if_neg (by omega)]
 have k2 : ∀ t, s ≤ t → t < mid → rot f m (m - s) (e - m) t = f (t + (m - s)) := fun t h h' => by unfold rot; rw [if_pos (by omega)]
 have k3 : ∀ t, mid ≤ t → t < e → rot f m (m - s) (e - m) t = f (t - (e - m)) := fun t h h' => by unfold rot; rw [if_neg (by omega), if_pos (by omega)]
 have k4 : ∀ t, e ≤ t → rot f m (m - s) (e - m) t = f t := fun t h => by unfold rot; rw [if_neg (by omega), if_neg (by omega)]
 refine ⟨hsm, hme, has, hsmid, hmide, heb, ⟨?_, ?_, ?_⟩, ⟨?_, ?_, ?_⟩, ?_⟩
 ·intro i j p q r
  rw [k1 i (by omega), k1 j r]; exact r1 i j p q (by omega)
 ·intro i j p q r
  rw [k2 i p (by omega), k2 j (by omega) r]; exact r2 _ _ (by omega) (by omega) (by omega)
 ·intro i j p q r t
  rw [k1 i q, k2 j r t]; exact r3 _ _ p (by omega) (by omega) (by omega)
 ·intro i j p q r
  rw [k3 i p (by omega), k3 j (by omega) r]; exact r1 _ _ (by omega) (by omega) (by omega)
 ·intro i j p q r
  rw [k4 i p, k4 j (by omega)]; exact r2 i j (by omega) q r
 ·intro i j p q r t
  rw [k3 i p q, k4 j r]; exact r3 _ _ (by omega) (by omega) (by omega) t
 ·intro i j p q r t
  by_cases hi : i < s
  ·rw [k1 i hi]
   by_cases hj : j < e
   ·rw [k3 j r hj]; exact r1 _ _ p (by omega) (by omega)
   ·rw [k4 j (by omega)]
    have h1 : st < s := by omega
    have h2 : lt cf (f i) (f e) := by
     by_cases hx : i = s - 1
     ·subst hx; exact hlo h1
     ·exact lt_trans ho (r1 i (s - 1) p (by omega) (by omega)) (hlo h1)
    by_cases hy : j = e
    ·subst hy; exact h2
    ·exact lt_trans ho h2 (r2 e j (by omega) (by omega) t)
  ·rw [k2 i (by omega) q]
   by_cases hj : j < e
   ·rw [k3 j r hj]
    have h1 : s < r0 := by omega
    have h2 : lt cf (f (i + (m - s))) (f s) := by
     by_cases hx : i + (m - s) = e - 1
     ·rw [hx]; exact hhi h1
     ·exact lt_trans ho (r2 _ (e - 1) (by omega) (by omega) (by omega)) (hhi h1)
    by_cases hy : j - (e - m) = s
    ·rw [hy]; exact h2
    ·exact lt_trans ho h2 (r1 s _ has (by omega) (by omega))
   ·rw [k4 j (by omega)]; exact r2 _ _ (by omega) (by omega) t
/-- one half that needs no merge is in order -/
theorem half_one {a s mid : Nat} {g : Nat → β × Nat} (h : Runs cf a s mid g) (hs : s ≤ a ∨ mid ≤ s) : Srt cf a mid g := by
 rcases hs with hs | hs
 ·exact h.2.1.sub hs (Nat.le_refl _)
 ·exact h.1.sub (Nat.le_refl _) hs
theorem runs_perm {a m b x y : Nat} {f g : Nat → β × Nat} (ha : a ≤ m) (hm : m ≤ b) (h : Runs cf a m b f) (hp : Perm x y f g) (ho : y ≤ a ∨ b ≤ x) : Runs cf a m b g := by
 have e : ∀ i, a ≤ i → i < b → g i = f i := fun i h1 h2 => hp.out (by omega)
 obtain ⟨h1, h2, h3⟩ := h
 exact ⟨fun i j p q r => by rw [e i p (by omega), e j (by omega) (by omega)]; exact h1 i j p q r, fun i j p q r => by rw [e i (by omega) (by omega), e j (by omega) r]; exact h2 i j p q r,
  fun i j p q r t => by rw [e i p (by omega), e j (by omega) t]; exact h3 i j p q r t⟩
theorem halves_end {a mid b : Nat} {g g1 g2 : Nat → β × Nat} (hc : ∀ i j, a ≤ i → i < mid → mid ≤ j → j < b → lt cf (g i) (g j)) (hp1 : Perm a mid g g1) (hp2 : Perm mid b g1 g2) (h1 : Srt cf a mid g1) (h2 : Srt cf mid b g2) (ha : a ≤ mid) (hb : mid ≤ b) :
  Perm a b g g2 ∧ Srt cf a b g2 := by
 refine ⟨(hp1.mono (Nat.le_refl _) hb).trans (hp2.mono ha (Nat.le_refl _)), fun i j p q r => ?_⟩
 by_cases hj : j < mid
 ·rw [hp2.out (.inl (by omega)), hp2.out (.inl hj)]; exact h1 i j p q hj
 ·by_cases hi : mid ≤ i
  ·exact h2 i j hi q r
  ·obtain ⟨y, y1, y2, ey⟩ := hp2.mem (show mid ≤ j by omega) r
   rw [hp2.out (.inl (by omega)), ey, hp1.out (.inr y1)]
   obtain ⟨x, x1, x2, ex⟩ := hp1.mem p (show i < mid by omega)
   rw [ex]; exact hc x y x1 x2 y1 y2
end
end Go.Stab
