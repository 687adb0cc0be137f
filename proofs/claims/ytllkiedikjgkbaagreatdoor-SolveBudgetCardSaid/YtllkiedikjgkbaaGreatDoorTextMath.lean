/- Texts in plain Lean: a text at a byte, and put together again. -/
import Derived.Test.YtllkiedikjgkbaaGreatDoorBase
import Derived.Lib.SplitLaws
import Derived.Lib.IndexBytes
namespace Go
/-- a text at each c -/
def sepAt (c : UInt8) : List UInt8 → List (List UInt8)
  | [] => [[]]
  | x :: l => if x = c then [] :: sepAt c l else match sepAt c l with
    | [] => [[x]]
    | p :: ps => (x :: p) :: ps
theorem sepAt_ne (c : UInt8) (l : List UInt8) : sepAt c l ≠ [] := by
  induction l with
  | nil => simp [sepAt]
  | cons x l ih =>
    unfold sepAt
    split
    · simp
    · split <;> simp
def sepSnoc (c : UInt8) (ps : List (List UInt8)) (x : UInt8) : List (List UInt8) := if x = c then ps ++ [[]] else ps.dropLast ++ [(ps.getLastD []) ++ [x]]
theorem sepAt_snoc (c : UInt8) (l : List UInt8) (y : UInt8) : sepAt c (l ++ [y]) = sepSnoc c (sepAt c l) y := by
  induction l with
  | nil =>
    by_cases h : y = c
    · subst h; simp [sepAt, sepSnoc]
    · simp [sepAt, sepSnoc, h]
  | cons x l ih =>
    rw [List.cons_append]
    have hne := sepAt_ne c l
    by_cases hx : x = c
    · subst hx
      rw [sepAt, if_pos rfl, sepAt, if_pos rfl, ih]
      unfold sepSnoc
      split
      · simp
      · cases hd : sepAt x l with
        | nil => exact absurd hd hne
        | cons p ps => simp
    · rw [sepAt, if_neg hx, ih, sepAt, if_neg hx]
      cases hd : sepAt c l with
      | nil => exact absurd hd hne
      | cons p ps =>
        by_cases hc : y = c
        · simp [sepSnoc, hc]
        · cases ps with
          | nil => simp [sepSnoc, hc]
          | cons q qs => simp [sepSnoc, hc]
theorem sepAt_none {c : UInt8} {l : List UInt8} (h : ∀ x ∈ l, x ≠ c) : sepAt c l = [l] := by
  induction l with
  | nil => rfl
  | cons x l ih => rw [sepAt, if_neg (h x (by simp)), ih (fun y hy => h y (by simp [hy]))]
theorem sepAt_app {c : UInt8} {l : List UInt8} (y : List UInt8) (h : ∀ x ∈ l, x ≠ c) : sepAt c (l ++ c :: y) = l :: sepAt c y := by
  induction l with
  | nil => simp [sepAt]
  | cons x l ih => rw [List.cons_append, sepAt, if_neg (h x (by simp)), ih (fun z hz => h z (by simp [hz]))]
theorem sepAt_count (c : UInt8) (l : List UInt8) : (sepAt c l).length = l.count c + 1 := by
  induction l with
  | nil => rfl
  | cons x l ih =>
    by_cases h : x = c
    · subst h; rw [sepAt, if_pos rfl, List.count_cons_self, List.length_cons, ih]
    · rw [sepAt, if_neg h, List.count_cons_of_ne h]
      split
      · rename_i hd; exact absurd hd (sepAt_ne c l)
      · rename_i hd; rw [hd] at ih; simpa using ih
theorem sepAt_no (c : UInt8) (l : List UInt8) : ∀ p ∈ sepAt c l, ∀ x ∈ p, x ≠ c := by
  induction l with
  | nil => intro p hp x hx; simp [sepAt] at hp; subst hp; cases hx
  | cons y l ih =>
    intro p hp x hx
    by_cases h : y = c
    · rw [sepAt, if_pos h] at hp
      rcases List.mem_cons.1 hp with rfl | hp
      · cases hx
      · exact ih p hp x hx
    · rw [sepAt, if_neg h] at hp
      split at hp
      · simp at hp; subst hp; simp at hx; subst hx; exact h
      · rename_i q qs hq
        rcases List.mem_cons.1 hp with rfl | hp
        · rcases List.mem_cons.1 hx with rfl | hx
          · exact h
          · exact ih q (by rw [hq]; simp) x hx
        · exact ih p (by rw [hq]; simp [hp]) x hx
theorem sepAt_size (c : UInt8) (l : List UInt8) : ∀ p ∈ sepAt c l, p.length ≤ l.length := by
  induction l with
  | nil => simp [sepAt]
  | cons x l ih =>
    unfold sepAt
    split
    · intro p hp
      rcases List.mem_cons.1 hp with rfl | hp
      · simp
      · have := ih p hp; simp; omega
    · split
      · intro p hp; simp at hp; subst hp; simp
      · rename_i q qs h
        rw [h] at ih
        intro p hp
        rcases List.mem_cons.1 hp with rfl | hp
        · have := ih q (by simp); simp; exact this
        · have := ih p (by simp [hp]); simp; omega
/-- pieces with c between -/
def joinAt (c : UInt8) : List (List UInt8) → List UInt8
  | [] => []
  | [p] => p
  | p :: q :: r => p ++ c :: joinAt c (q :: r)
theorem joinAt_sep (c : UInt8) (l : List UInt8) : joinAt c (sepAt c l) = l := by
  induction l with
  | nil => rfl
  | cons x l ih =>
    have hne := sepAt_ne c l
    by_cases h : x = c
    · subst h
      rw [sepAt, if_pos rfl]
      cases hd : sepAt x l with
      | nil => exact absurd hd hne
      | cons p ps => rw [hd] at ih; rw [joinAt, ih]; rfl
    · rw [sepAt, if_neg h]
      cases hd : sepAt c l with
      | nil => exact absurd hd hne
      | cons p ps =>
        rw [hd] at ih
        cases ps with
        | nil => simp [joinAt] at ih ⊢; exact ih
        | cons q qs => rw [joinAt] at ih ⊢; rw [List.cons_append, ih]
theorem sepAt_join {c : UInt8} : ∀ {ls : List (List UInt8)}, ls ≠ [] → (∀ p ∈ ls, ∀ x ∈ p, x ≠ c) → sepAt c (joinAt c ls) = ls
  | [], h, _ => absurd rfl h
  | [p], _, h => by rw [joinAt]; exact sepAt_none (h p (by simp))
  | p :: q :: r, _, h => by
    rw [joinAt, sepAt_app _ (h p (by simp)), sepAt_join (by simp) (fun z hz => h z (by simp at hz ⊢; right; exact hz))]
theorem joinAt_snoc (c : UInt8) : ∀ {ls : List (List UInt8)} (p : List UInt8), ls ≠ [] → joinAt c (ls ++ [p]) = joinAt c ls ++ c :: p
  | [], _, h => absurd rfl h
  | [q], p, _ => rfl
  | q :: s :: r, p, _ => by
    show joinAt c (q :: s :: (r ++ [p])) = _
    rw [joinAt, joinAt, show s :: (r ++ [p]) = (s :: r) ++ [p] from rfl, joinAt_snoc c p (by simp), List.append_assoc]; rfl
theorem splitK_sep (c : UInt8) (n : Nat) : ∀ (l : List UInt8), l.length ≤ n → Lib.splitK [c] 0 (l.count c) l = sepAt c l := by
  induction n with
  | zero => intro l h; obtain rfl : l = [] := List.eq_nil_of_length_eq_zero (by omega); rfl
  | succ n ih =>
    intro l hl
    cases hc : l.count c with
    | zero =>
      have hn : ∀ x ∈ l, x ≠ c := by
        rintro x hx rfl
        have := List.count_pos_iff.2 hx
        omega
      rw [sepAt_none hn]; rfl
    | succ k =>
      have hm : c ∈ l := List.count_pos_iff.1 (by omega)
      obtain ⟨x, y, rfl, hx⟩ : ∃ x y, l = x ++ c :: y ∧ ∀ z ∈ x, z ≠ c := by
        clear hl hc
        induction l with
        | nil => cases hm
        | cons a l ih =>
          by_cases ha : a = c
          · subst ha; exact ⟨[], l, rfl, by simp⟩
          · obtain ⟨x, y, h1, h2⟩ := ih (by rcases List.mem_cons.1 hm with h | h; exact absurd h.symm ha; exact h)
            refine ⟨a :: x, y, by rw [h1]; rfl, fun z hz => ?_⟩
            rcases List.mem_cons.1 hz with rfl | h
            · exact ha
            · exact h2 z h
      have hx0 : x.count c = 0 := List.count_eq_zero.2 (fun h => hx _ h rfl)
      rw [List.count_append, hx0, List.count_cons_self] at hc
      have hi : Lib.index (x ++ c :: y) [c] = (x.length : Int) := by
        rw [Lib.index_one]
        clear hl hc hm hx0
        induction x with
        | nil => simp [Lib.indexByte]
        | cons a x ih =>
          have := ih (fun z hz => hx z (by simp [hz]))
          have ha := hx a (by simp)
          have hb : (a == c) = false := by simpa using ha
          rw [List.cons_append, Lib.indexByte, hb, this]
          have : ((x.length : Int) == -1) = false := by simp
          rw [this]
          simp
      rw [sepAt_app y hx]
      unfold Lib.splitK
      have : ((x.length : Int) == -1) = false := by simp
      rw [hi, this]
      simp only [Int.toNat_natCast, Nat.add_zero, List.length_singleton, Bool.false_eq_true, if_false]
      rw [List.take_left', show (x ++ c :: y).drop (x.length + 1) = y by simp]
      · have hk : k = y.count c := by omega
        rw [hk, ih y (by simp at hl; omega)]
      · rfl
theorem split_sep (c : UInt8) (s : ByteArray) : (Lib.splitB ⟨#[c]⟩ 0 (Lib.countB s ⟨#[c]⟩) s) = (sepAt c s.data.toList).map S := by
  have h := Lib.splitB_data ⟨#[c]⟩ 0 (Lib.countB s ⟨#[c]⟩) s
  have hc : Lib.countB s ⟨#[c]⟩ = s.data.toList.count c := by
    show Lib.count _ _ = _
    exact Lib.count_one c _
  rw [hc] at h ⊢
  rw [show (⟨#[c]⟩ : ByteArray).data.toList = [c] from rfl, splitK_sep _ _ _ (Nat.le_refl _)] at h
  have := congrArg (List.map S) h
  rw [List.map_map] at this
  rw [← this]
  conv => lhs; rw [← List.map_id (Lib.splitB _ _ _ _)]
  rfl
theorem countB_sep (c : UInt8) (s : ByteArray) : Lib.countB s ⟨#[c]⟩ + 1 = (sepAt c s.data.toList).length := by
  rw [sepAt_count]
  have : Lib.countB s ⟨#[c]⟩ = s.data.toList.count c := by
    show Lib.count _ _ = _
    exact Lib.count_one c _
  rw [this]
end Go
