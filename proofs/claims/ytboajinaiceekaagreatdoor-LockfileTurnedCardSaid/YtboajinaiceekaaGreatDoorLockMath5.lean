/- Locks, plainly: what leads from one to another: names in order; two rows side by side. -/
import Derived.Test.YtboajinaiceekaaGreatDoorLockMath2
import Derived.Lib.SlicesCompact
namespace Go
open Go.Lib
theorem bLess : ∀ (x y : List UInt8), Op.bytesLess x y = decide (x < y)
  | [], [] => by simp [Op.bytesLess]
  | [], b :: y => by simp [Op.bytesLess]
  | a :: x, [] => by simp [Op.bytesLess]
  | a :: x, b :: y => by
    rw [Op.bytesLess, bLess x y]
    by_cases h1 : a < b
    · simp [h1, List.cons_lt_cons_iff]
    · by_cases h2 : a = b
      · subst h2; simp
      · simp [h1, h2, List.cons_lt_cons_iff]
theorem lt_of_ne {a b : List UInt8} (h : a ≤ b) (hn : a ≠ b) : a < b := by
  by_cases hl : a < b
  · exact hl
  · exact absurd (List.le_antisymm h (List.not_lt.1 hl)) hn
/-- strictly in order -/
def Asc (l : List (List UInt8)) : Prop := l.Pairwise (· < ·)
theorem asc_ext : ∀ {a b : List (List UInt8)}, Asc a → Asc b → (∀ x, x ∈ a ↔ x ∈ b) → a = b
  | [], [], _, _, _ => rfl
  | [], y :: b, _, _, h => absurd ((h y).2 List.mem_cons_self) (by simp)
  | x :: a, [], _, _, h => absurd ((h x).1 List.mem_cons_self) (by simp)
  | x :: a, y :: b, ha, hb, h => by
    obtain ⟨a1, a2⟩ := List.pairwise_cons.1 ha
    obtain ⟨b1, b2⟩ := List.pairwise_cons.1 hb
    have e : x = y := by
      rcases List.mem_cons.1 ((h x).1 List.mem_cons_self) with e | hx
      · exact e
      · rcases List.mem_cons.1 ((h y).2 List.mem_cons_self) with e | hy
        · exact e.symm
        · exact absurd (List.lt_trans (b1 x hx) (a1 y hy)) (List.lt_irrefl y)
    subst e
    rw [asc_ext a2 b2 (fun z => ?_)]
    constructor
    · intro hz
      rcases List.mem_cons.1 ((h z).1 (List.mem_cons_of_mem _ hz)) with e | hz'
      · subst e; exact absurd (a1 z hz) (List.lt_irrefl z)
      · exact hz'
    · intro hz
      rcases List.mem_cons.1 ((h z).2 (List.mem_cons_of_mem _ hz)) with e | hz'
      · subst e; exact absurd (b1 z hz) (List.lt_irrefl z)
      · exact hz'
theorem compact_go (d : Array (List UInt8)) (hs : ∀ i j, i ≤ j → j < d.size → d[i]! ≤ d[j]!) : ∀ m, m ≤ d.size → (∀ x, x ∈ compactUpTo d m ↔ ∃ j, j < m ∧ d[j]! = x) ∧ Asc (compactUpTo d m)
  | 0, _ => ⟨fun x => by simp [compactUpTo], by simp [compactUpTo, Asc]⟩
  | m + 1, hm => by
    obtain ⟨h1, h2⟩ := compact_go d hs m (by omega)
    rw [compactUpTo_succ]
    cases hk : keeps d m
    · have hk' : ¬ (m = 0 ∨ d[m]! ≠ d[m - 1]!) := by
        unfold keeps at hk
        exact of_decide_eq_false hk
      have hm0 : m ≠ 0 := fun e => hk' (.inl e)
      have he : d[m]! = d[m - 1]! := by
        by_cases e : d[m]! = d[m - 1]!
        · exact e
        · exact absurd (.inr e) hk'
      simp only [Bool.false_eq_true, if_false, List.append_nil]
      refine ⟨fun x => ?_, h2⟩
      rw [h1]
      constructor
      · rintro ⟨j, hj, e⟩; exact ⟨j, by omega, e⟩
      · rintro ⟨j, hj, e⟩
        by_cases hjm : j = m
        · subst hjm; exact ⟨j - 1, by omega, by rw [← he]; exact e⟩
        · exact ⟨j, by omega, e⟩
    · have hk' : m = 0 ∨ d[m]! ≠ d[m - 1]! := by
        unfold keeps at hk
        exact of_decide_eq_true hk
      simp only [if_true]
      refine ⟨fun x => ?_, ?_⟩
      · rw [List.mem_append, h1, List.mem_singleton]
        constructor
        · rintro (⟨j, hj, e⟩ | e)
          · exact ⟨j, by omega, e⟩
          · exact ⟨m, by omega, e.symm⟩
        · rintro ⟨j, hj, e⟩
          by_cases hjm : j = m
          · subst hjm; exact .inr e.symm
          · exact .inl ⟨j, by omega, e⟩
      · refine List.pairwise_append.2 ⟨h2, List.pairwise_singleton _ _, fun x hx y hy => ?_⟩
        rw [List.mem_singleton] at hy
        subst hy
        obtain ⟨j, hj, rfl⟩ := (h1 x).1 hx
        rcases hk' with rfl | hne
        · omega
        · have e1 := hs j (m - 1) (by omega) (by omega)
          have e2 := lt_of_ne (hs (m - 1) m (by omega) (by omega)) (fun e => hne e.symm)
          exact List.lt_of_le_of_lt e1 e2
theorem compact_sorted {zs : List (List UInt8)} (hs : zs.Pairwise (· ≤ ·)) : (∀ x, x ∈ compact zs ↔ x ∈ zs) ∧ Asc (compact zs) := by
  have hg : ∀ i j, i ≤ j → j < zs.toArray.size → zs.toArray[i]! ≤ zs.toArray[j]! := by
    intro i j hij hj
    have hj' : j < zs.length := by simpa using hj
    rw [getElem!_pos zs.toArray i (by simp; omega), getElem!_pos zs.toArray j hj]
    simp only [List.getElem_toArray]
    by_cases e : i = j
    · subst e; exact List.le_refl _
    · exact List.pairwise_iff_getElem.1 hs i j (by omega) hj' (by omega)
  obtain ⟨h1, h2⟩ := compact_go zs.toArray hg zs.length (by simp)
  refine ⟨fun x => ?_, h2⟩
  unfold compact
  rw [h1]
  constructor
  · rintro ⟨j, hj, rfl⟩
    rw [getElem!_pos zs.toArray j (by simpa using hj)]
    simp
  · intro hx
    obtain ⟨j, hj, rfl⟩ := List.getElem_of_mem hx
    exact ⟨j, hj, by rw [getElem!_pos zs.toArray j (by simpa using hj)]; simp⟩
theorem sort_names (zs : List (List UInt8)) : (∀ x, x ∈ compact (zs.mergeSort fun x y => decide (x ≤ y)) ↔ x ∈ zs) ∧ Asc (compact (zs.mergeSort fun x y => decide (x ≤ y))) := by
  have hp : (zs.mergeSort fun x y => decide (x ≤ y)).Pairwise (· ≤ ·) := by
    have := List.pairwise_mergeSort (le := fun x y : List UInt8 => decide (x ≤ y)) (fun a b c h1 h2 => by simp only [decide_eq_true_eq] at *; exact List.le_trans h1 h2) (fun a b => by simp only [Bool.or_eq_true, decide_eq_true_eq]; exact List.le_total a b) zs
    exact this.imp (fun h => of_decide_eq_true h)
  obtain ⟨h1, h2⟩ := compact_sorted hp
  exact ⟨fun x => (h1 x).trans List.mem_mergeSort, h2⟩
end Go
