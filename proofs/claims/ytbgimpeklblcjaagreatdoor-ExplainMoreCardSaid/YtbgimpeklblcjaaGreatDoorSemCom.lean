/- What the walks of versions share: small facts, relations, posts. -/
import Derived.Test.YtbgimpeklblcjaaGreatDoorSemMath
import Derived.Test.YtbgimpeklblcjaaGreatDoorCells
import Derived.Deep.LoopGhost
import Derived.RegionTactic
import Derived.ChangeAlike
import Derived.Deep.QuietTactic
import Derived.BigQuiet
import Derived.Deep.RegionWith
import Derived.StillTailTactics
import Derived.Deep.RegionHeld3
import Derived.Deep.DeepCutAuto
import Derived.Outline
namespace Go
open Go.RowKit
theorem toList_empty (s : ByteArray) : s.toList.isEmpty = s.data.toList.isEmpty := by rw [Lib.toList_data]
theorem take_byte (s : ByteArray) (k : Nat) (h : k < s.size) : s.data.toList.take (k + 1) = s.data.toList.take k ++ [s[k]] := by
 rw [List.take_succ_eq_append_getElem (by simpa using h)]; rfl
def PartRel (s : ByteArray) (i : Value) : Prop := ∃ k : Nat, k ≤ s.size ∧ i = .int .i64 (k : Int) ∧ (s.data.toList.take k).all Sem4.partCh = true
theorem part_no (s : ByteArray) (k : Nat) (h : k < s.size) (x : UInt8) (hx : s[k] = x) (hc : Sem4.partCh x = false) : Sem4.part s.data.toList = false := by
 unfold Sem4.part
 have : s.data.toList.all Sem4.partCh = false := by
  rw [List.all_eq_false]
  refine ⟨x, ?_, by simp [hc]⟩
  have : x ∈ s.data.toList.take (k + 1) := by rw [take_byte s k h, hx]; simp
  exact List.mem_of_mem_take this
 rw [this]; simp
theorem dots_len (l : List UInt8) : (Sem4.dots l).length ≤ l.length + 1 := by
 induction l with
 | nil => simp [Sem4.dots]
 | cons c l ih =>
  unfold Sem4.dots
  split
  ·simp; exact ih
  ·split <;> (rename_i h; rw [h] at ih; simp at ih ⊢; try omega)
theorem dots_part_size (l : List UInt8) : ∀ p ∈ Sem4.dots l, p.length ≤ l.length := by
 induction l with
 | nil => simp [Sem4.dots]
 | cons c l ih =>
  unfold Sem4.dots
  split
  ·intro p hp
   rcases List.mem_cons.1 hp with rfl | hp
   ·simp
   ·have := ih p hp; simp; omega
  ·split
   ·intro p hp; simp at hp; subst hp; simp
   ·rename_i q qs h
    rw [h] at ih
    intro p hp
    rcases List.mem_cons.1 hp with rfl | hp
    ·have := ih q (by simp); simp; exact this
    ·have := ih p (by simp [hp]); simp; omega
end Go
