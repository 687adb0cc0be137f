/- Locks: names put in order: the library's Sort and Compact in our words. -/
import Derived.Test.YtboajinaiceekaaGreatDoorLock8
import Derived.Test.YtboajinaiceekaaGreatDoorLock9
import Derived.Test.YtboajinaiceekaaGreatDoorLockPlain
import Derived.Test.YtboajinaiceekaaGreatDoorBuilder
import Derived.Lib.OwnBridge
namespace Go
open Go.RowKit
theorem owns_len {w : World} {base : Nat} {e : TypeId} {v : Value} {n : Nat} {ls : List (List UInt8)} (h : w.ownsRow base e 1 v n (strs ls)) : ls.length = n := by
  have := h.1
  rw [strs_length] at this
  omega
end Go
namespace Go.Proofs.YtboajinaiceekaaGreatDoor
open Go.RowKit
theorem sortN_any (B : Nat) (v : Value) (n : Nat) (ls : List (List UInt8)) (w : World) (hown : w.ownsRow B 9 1 v n (strs ls)) (hB : B ≤ w.heap.size) (hn : n ≤ 1000000) :
    Calls Tryz.prog 37 #[v] w fun e w' => e = .returned (.tuple #[]) ∧ w'.ownsRow B 9 1 v n (strs (ls.mergeSort fun x y => decide (x ≤ y))) ∧ Below B w w' := by
  have hl := owns_len hown
  by_cases hv : v = .slice none 0 0
  · subst hv
    have hn0 : n = 0 := by
      rcases hown.2 with ⟨_, h⟩ | ⟨g, cap, cur, h, _⟩
      · exact h
      · cases h
    subst hn0
    have hls : ls = [] := List.eq_nil_of_length_eq_zero hl
    subst hls
    exact (Tryz.slices_Sort_string_none none 0 w).mono fun _ _ ⟨he, hw⟩ => ⟨he, by rw [hw, List.mergeSort_nil]; exact hown, by rw [hw]; exact Below.refl _ _⟩
  · obtain ⟨g, cap, rfl, hg, hgl, hnc, hcm, _, hH⟩ := Lib.holds_of_ownsRow (enc := encStr) (zs := ls) hown hv
    have h := Tryz.slices_Sort_string g 0 cap ls w hH hgl (by omega)
    rw [hl] at h
    refine h.mono fun e w' ⟨he, q, os, hw⟩ => ⟨he, ?_, ?_⟩
    · have h1 := Lib.ownsRow_putRow (q := q) (ys := ls.mergeSort fun x y => decide (x ≤ y)) (k := n) hown (by rw [List.length_mergeSort]; exact hl) (Nat.le_refl _)
      rw [List.take_of_length_le (by rw [List.length_mergeSort]; omega)] at h1
      rw [hw]
      exact owns_below h1 (below_growN (Below.refl _ _) 0 os (Nat.le_refl _))
    · rw [hw]
      exact below_growN (Lib.below_putRow (Below.refl _ _) hg) 0 os (by simpa [Sort.putRow, Sort.mapBlock, Sort.ahead] using hB)
theorem compN_any (B : Nat) (v : Value) (n : Nat) (ls : List (List UInt8)) (w : World) (hown : w.ownsRow B 9 1 v n (strs ls)) (hn : n ≤ 1000000) :
    Calls Tryz.prog 38 #[v] w fun e w' => ∃ u, e = .returned u ∧ w'.ownsRow B 9 1 u (Lib.compact ls).length (strs (Lib.compact ls)) ∧ Below B w w' ∧
      (∀ j, u.ownBlock = some j → v.ownBlock = some j) ∧ (∀ j, v.ownBlock ≠ some j → w'.heap[j]? = w.heap[j]?) := by
  have hl := owns_len hown
  by_cases hv : v = .slice none 0 0
  · subst hv
    have hn0 : n = 0 := by
      rcases hown.2 with ⟨_, h⟩ | ⟨g, cap, cur, h, _⟩
      · exact h
      · cases h
    subst hn0
    have hls : ls = [] := List.eq_nil_of_length_eq_zero hl
    subst hls
    exact (Tryz.slices_Compact_string_empty none 0 w).mono fun _ _ ⟨he, hw⟩ => ⟨_, he, by rw [hw]; exact hown, by rw [hw]; exact Below.refl _ _, fun j h => h, fun j _ => by rw [hw]⟩
  · obtain ⟨g, cap, rfl, hg, hgl, hnc, hcm, _, hH⟩ := Lib.holds_of_ownsRow (enc := encStr) (zs := ls) hown hv
    have h := Tryz.slices_Compact_string g 0 cap ls w hH (by omega) (by omega)
    rw [hl] at h
    have hcl := Lib.compact_length_le ls
    refine h.mono fun e w' ⟨he, q, hw⟩ => ⟨_, he, ?_, ?_, fun j h => h, fun j hj => ?_⟩
    · have h1 := Lib.ownsRow_putRow (q := q) (ys := Lib.compact ls ++ List.replicate (n - (Lib.compact ls).length) []) (k := (Lib.compact ls).length) hown (by rw [List.length_append, List.length_replicate]; omega) (by omega)
      rw [List.take_left] at h1
      rw [hw]
      exact h1
    · rw [hw]
      exact Lib.below_putRow (Below.refl _ _) hg
    · have hgj : g ≠ j := fun e => hj (by rw [e]; rfl)
      rw [hw]
      simp [Sort.putRow, Sort.mapBlock, Sort.ahead, Array.getElem?_modify, hgj]
end Go.Proofs.YtboajinaiceekaaGreatDoor
