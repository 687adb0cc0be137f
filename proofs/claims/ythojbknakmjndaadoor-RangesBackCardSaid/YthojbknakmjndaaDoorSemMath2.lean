/- Versions in plain Lean: what is written of a version, and that it is one-to-one. -/
import Derived.Test.YthojbknakmjndaaDoorSemMath
namespace Go
def numOk (n : Int) : Bool := decide (0 ≤ n) && decide (n ≤ 999999)
/-- may what stands behind the '-' be? -/
def preOk (p : List UInt8) : Bool := p.isEmpty || (Sem4.dots p).all Sem4.part
/-- may a version be? -/
def verOk (a b c : Int) (p : List UInt8) : Bool := numOk a && numOk b && numOk c && decide (p.length ≤ 24) && preOk p
def verErr (a b c : Int) (p : List UInt8) : Int := if verOk a b c p then 0 else 40
/-- a number's digits -/
def dig10 (n : Nat) : List UInt8 := if n < 10 then [UInt8.ofNat (48 + n)] else dig10 (n / 10) ++ [UInt8.ofNat (48 + n % 10)]
theorem dig10_lt (n : Nat) (h : n < 10) : dig10 n = [UInt8.ofNat (48 + n)] := by rw [dig10, if_pos h]
theorem dig10_ge (n : Nat) (h : 10 ≤ n) : dig10 n = dig10 (n / 10) ++ [UInt8.ofNat (48 + n % 10)] := by rw [dig10, if_neg (by omega)]
def showCore (a b c : Nat) : List UInt8 := dig10 a ++ [46] ++ dig10 b ++ [46] ++ dig10 c
def showL (a b c : Nat) (p : List UInt8) : List UInt8 := if p.isEmpty then showCore a b c else showCore a b c ++ [45] ++ p
theorem ofNat_toNat (n : Nat) (h : n < 256) : (UInt8.ofNat n).toNat = n := by
  simp; omega
theorem isDig_of (d : Nat) (h : d < 10) : Sem4.isDig (UInt8.ofNat (48 + d)) = true := by
  unfold Sem4.isDig; rw [ofNat_toNat _ (by omega)]; simp; omega
theorem dig10_all (n : Nat) : (dig10 n).all Sem4.isDig = true := by
  induction n using Nat.strongRecOn with
  | ind n ih =>
    by_cases h : n < 10
    · rw [dig10_lt n h, List.all_cons, isDig_of n h]; rfl
    · rw [dig10_ge n (by omega), List.all_append, ih (n / 10) (by omega), List.all_cons, isDig_of (n % 10) (by omega)]; rfl
theorem dig10_ne (n : Nat) : dig10 n ≠ [] := by
  by_cases h : n < 10
  · rw [dig10_lt n h]; simp
  · rw [dig10_ge n (by omega)]; simp
/-- a number out of digits, as the document reads it: what is too great is not read on -/
def dstep (m : Nat) (c : UInt8) : Nat := if m ≤ 999999 then 10 * m + (c.toNat - 48) else m
def dfold (l : List UInt8) : Nat := l.foldl dstep 0
theorem dfold_snoc (l : List UInt8) (c : UInt8) : dfold (l ++ [c]) = dstep (dfold l) c := by simp [dfold]
theorem dfold_le (l : List UInt8) (h : l.all Sem4.isDig = true) : dfold l ≤ 9999999 := by
  have H : ∀ (l : List UInt8) (m : Nat), m ≤ 9999999 → l.all Sem4.isDig = true → l.foldl dstep m ≤ 9999999 := by
    intro l
    induction l with
    | nil => intro m hm _; exact hm
    | cons c l ih =>
      intro m hm h
      rw [List.all_cons, Bool.and_eq_true] at h
      refine ih _ ?_ h.2
      have : c.toNat ≤ 57 := by have := h.1; simp [Sem4.isDig] at this; omega
      unfold dstep; split <;> omega
  exact H l 0 (by omega) h
theorem dfold_dig10 (n : Nat) (h : n ≤ 9999999) : dfold (dig10 n) = n := by
  induction n using Nat.strongRecOn with
  | ind n ih =>
    by_cases hn : n < 10
    · rw [dig10_lt n hn]; unfold dfold; simp only [List.foldl_cons, List.foldl_nil]; unfold dstep; rw [ofNat_toNat _ (by omega)]; simp
    · rw [dig10_ge n (by omega), dfold_snoc, ih (n / 10) (by omega) (by omega)]
      unfold dstep; rw [ofNat_toNat _ (by omega), if_pos (by omega)]; omega
theorem dots_dig (l : List UInt8) (h : ∀ c ∈ l, c ≠ 46) : Sem4.dots l = [l] := by
  induction l with
  | nil => rfl
  | cons c l ih => rw [Sem4.dots, if_neg (h c (by simp)), ih (fun x hx => h x (by simp [hx]))]
theorem dots_app (l y : List UInt8) (h : ∀ c ∈ l, c ≠ 46) : Sem4.dots (l ++ 46 :: y) = l :: Sem4.dots y := by
  induction l with
  | nil => simp [Sem4.dots]
  | cons c l ih => rw [List.cons_append, Sem4.dots, if_neg (h c (by simp)), ih (fun x hx => h x (by simp [hx]))]
theorem dig_ne46 {l : List UInt8} (h : l.all Sem4.isDig = true) : ∀ c ∈ l, c ≠ 46 := by
  rintro c hc rfl
  have := List.all_eq_true.1 h _ hc
  simp [Sem4.isDig] at this
theorem dig_ne45 {l : List UInt8} (h : l.all Sem4.isDig = true) : ∀ c ∈ l, c ≠ 45 := by
  rintro c hc rfl
  have := List.all_eq_true.1 h _ hc
  simp [Sem4.isDig] at this
theorem dots_core (a b c : Nat) : Sem4.dots (showCore a b c) = [dig10 a, dig10 b, dig10 c] := by
  unfold showCore
  rw [show dig10 a ++ [46] ++ dig10 b ++ [46] ++ dig10 c = dig10 a ++ 46 :: (dig10 b ++ 46 :: dig10 c) by simp,
    dots_app _ _ (dig_ne46 (dig10_all a)), dots_app _ _ (dig_ne46 (dig10_all b)), dots_dig _ (dig_ne46 (dig10_all c))]
def notDash (c : UInt8) : Bool := decide (c ≠ 45)
theorem core_dash (a b c : Nat) : ∀ x ∈ showCore a b c, notDash x = true := by
  intro x hx
  unfold showCore at hx
  simp only [List.mem_append, List.mem_singleton] at hx
  unfold notDash
  rcases hx with (((hx | hx) | hx) | hx) | hx
  · simpa using dig_ne45 (dig10_all _) _ hx
  · subst hx; decide
  · simpa using dig_ne45 (dig10_all _) _ hx
  · subst hx; decide
  · simpa using dig_ne45 (dig10_all _) _ hx
/-- what stands ahead of the first '-', and what behind it -/
def coreOf (l : List UInt8) : List UInt8 := l.takeWhile notDash
def preOf (l : List UInt8) : List UInt8 := (l.dropWhile notDash).drop 1
theorem coreOf_show (a b c : Nat) (p : List UInt8) : coreOf (showL a b c p) = showCore a b c := by
  unfold coreOf showL
  split
  · have := List.takeWhile_append_of_pos (l₂ := []) (core_dash a b c)
    simpa using this
  · rw [List.append_assoc, List.takeWhile_append_of_pos (core_dash a b c)]; simp [notDash]
theorem preOf_show (a b c : Nat) (p : List UInt8) : preOf (showL a b c p) = p := by
  unfold preOf showL
  split
  · rename_i h
    have := List.dropWhile_append_of_pos (l₂ := []) (core_dash a b c)
    simp at this h
    rw [this, h]; rfl
  · rw [List.append_assoc, List.dropWhile_append_of_pos (core_dash a b c)]; simp [notDash]
theorem core_inj {a b c a' b' c' : Nat} (ha : a ≤ 999999) (hb : b ≤ 999999) (hc : c ≤ 999999) (ha' : a' ≤ 999999) (hb' : b' ≤ 999999) (hc' : c' ≤ 999999)
    (h : showCore a b c = showCore a' b' c') : a = a' ∧ b = b' ∧ c = c' := by
  have h1 := congrArg Sem4.dots h
  rw [dots_core, dots_core] at h1
  simp only [List.cons.injEq, and_true] at h1
  have g : ∀ x y, x ≤ 999999 → y ≤ 999999 → dig10 x = dig10 y → x = y := by
    intro x y hx hy e
    rw [← dfold_dig10 x (by omega), ← dfold_dig10 y (by omega), e]
  exact ⟨g _ _ ha ha' h1.1, g _ _ hb hb' h1.2.1, g _ _ hc hc' h1.2.2⟩
theorem showL_inj {a b c a' b' c' : Nat} {p p' : List UInt8} (ha : a ≤ 999999) (hb : b ≤ 999999) (hc : c ≤ 999999) (ha' : a' ≤ 999999) (hb' : b' ≤ 999999) (hc' : c' ≤ 999999)
    (h : showL a b c p = showL a' b' c' p') : a = a' ∧ b = b' ∧ c = c' ∧ p = p' := by
  have h1 := congrArg coreOf h
  have h2 := congrArg preOf h
  rw [coreOf_show, coreOf_show] at h1
  rw [preOf_show, preOf_show] at h2
  obtain ⟨x, y, z⟩ := core_inj ha hb hc ha' hb' hc' h1
  exact ⟨x, y, z, h2⟩
theorem verOk_bounds {a b c : Int} {p : List UInt8} (h : verOk a b c p = true) : 0 ≤ a ∧ a ≤ 999999 ∧ 0 ≤ b ∧ b ≤ 999999 ∧ 0 ≤ c ∧ c ≤ 999999 ∧ p.length ≤ 24 ∧ preOk p = true := by
  simp only [verOk, numOk, Bool.and_eq_true, decide_eq_true_eq] at h
  obtain ⟨⟨⟨⟨⟨h1, h2⟩, h3, h4⟩, h5, h6⟩, h7⟩, h8⟩ := h
  exact ⟨h1, h2, h3, h4, h5, h6, h7, h8⟩
theorem dig10_len (n : Nat) (h : n ≤ 999999) : (dig10 n).length ≤ 6 := by
  have step : ∀ k n, n < 10 ^ (k + 1) → (dig10 n).length ≤ k + 1 := by
    intro k
    induction k with
    | zero => intro n hn; rw [dig10_lt n (by simpa using hn)]; simp
    | succ k ih =>
      intro n hn
      by_cases h : n < 10
      · rw [dig10_lt n h]; simp
      · rw [dig10_ge n (by omega), List.length_append]
        have := ih (n / 10) (by rw [Nat.pow_succ] at hn; omega)
        simp; omega
  exact step 5 n (by simp; omega)
theorem showL_len {a b c : Nat} {p : List UInt8} (ha : a ≤ 999999) (hb : b ≤ 999999) (hc : c ≤ 999999) (hp : p.length ≤ 24) : (showL a b c p).length ≤ 45 := by
  have := dig10_len a ha
  have := dig10_len b hb
  have := dig10_len c hc
  unfold showL showCore
  split <;> simp <;> omega
/-- the text of a version that may be, and nothing else -/
def IsShow (a b c : Int) (p : List UInt8) (l : List UInt8) : Prop := verOk a b c p = true ∧ showL a.toNat b.toNat c.toNat p = l
/-- the version that a text is, or the error -/
def ParseIs (l : List UInt8) (a b c : Int) (p : List UInt8) (e : Int) : Prop :=
  (e = 0 ∧ IsShow a b c p l) ∨ (e = 40 ∧ a = 0 ∧ b = 0 ∧ c = 0 ∧ p = [] ∧ ∀ a b c p, ¬ IsShow a b c p l)
theorem ParseIs.uniq {l : List UInt8} {a b c a' b' c' e e' : Int} {p p' : List UInt8} (h : ParseIs l a b c p e) (h' : ParseIs l a' b' c' p' e') : a = a' ∧ b = b' ∧ c = c' ∧ p = p' ∧ e = e' := by
  rcases h with ⟨rfl, h1, h2⟩ | ⟨rfl, rfl, rfl, rfl, rfl, h⟩ <;> rcases h' with ⟨rfl, g1, g2⟩ | ⟨rfl, rfl, rfl, rfl, rfl, g⟩
  · have b1 := verOk_bounds h1
    have b2 := verOk_bounds g1
    have := showL_inj (by omega) (by omega) (by omega) (by omega) (by omega) (by omega) (h2.trans g2.symm)
    exact ⟨by omega, by omega, by omega, this.2.2.2, rfl⟩
  · exact absurd ⟨h1, h2⟩ (g _ _ _ _)
  · exact absurd ⟨g1, g2⟩ (h _ _ _ _)
  · exact ⟨rfl, rfl, rfl, rfl, rfl⟩
end Go
