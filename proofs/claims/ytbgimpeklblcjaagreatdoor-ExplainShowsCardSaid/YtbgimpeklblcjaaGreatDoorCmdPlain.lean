/- Commands in plain Lean: words, what arguments must be. The program's table of commands tells what the reference's does. Commands in plain Lean: a text that is cut at a byte; what a command reads as, how it is written; back and forth. -/
import Derived.Test.YtbgimpeklblcjaaGreatDoorLexMath
import Derived.Test.YtbgimpeklblcjaaGreatDoorVerMath
namespace Go
end Go

namespace Go
end Go

namespace Go
/-- a version's text is made of bytes above 44 -/
theorem dig_gt {c : UInt8} (h : Sem4.isDig c = true) : 44 < c.toNat := by
 unfold Sem4.isDig at h
 simp at h
 omega
theorem part_gt {c : UInt8} (h : Sem4.partCh c = true) : 44 < c.toNat := by
 unfold Sem4.partCh Sem4.isDig at h
 simp at h
 omega
theorem dots_mem {x : UInt8} : ∀ {l : List UInt8}, x ∈ l → x = 46 ∨ ∃ q ∈ Sem4.dots l, x ∈ q
 | [], h => by cases h
 | c :: l, h => by
  rw [Sem4.dots]
  by_cases hc : c = 46
  ·rw [if_pos hc]
   rcases List.mem_cons.1 h with h | h
   ·exact .inl (h.trans hc)
   ·rcases dots_mem h with h1 | ⟨q, h1, h2⟩
    ·exact .inl h1
    ·exact .inr ⟨q, by simp [h1], h2⟩
  ·rw [if_neg hc]
   cases hd : Sem4.dots l with
   | nil => exact absurd hd (Sem4.dots_ne l)
   | cons p ps =>
    rcases List.mem_cons.1 h with h | h
    ·exact .inr ⟨c :: p, by simp, by rw [h]; simp⟩
    ·rcases dots_mem h with h1 | ⟨q, h1, h2⟩
     ·exact .inl h1
     ·rw [hd] at h1
      rcases List.mem_cons.1 h1 with rfl | h1
      ·exact .inr ⟨c :: q, by simp, by simp [h2]⟩
      ·exact .inr ⟨q, by simp [h1], h2⟩
theorem pre_gt {p : List UInt8} (h : preOk p = true) : ∀ x ∈ p, 44 < x.toNat := by
 intro x hx
 unfold preOk at h
 cases p with
 | nil => cases hx
 | cons a p =>
  rw [show (a :: p).isEmpty = false from rfl, Bool.false_or] at h
  rcases dots_mem hx with rfl | ⟨q, h1, h2⟩
  ·decide
  ·have := List.all_eq_true.1 h q h1
   unfold Sem4.part at this
   simp only [Bool.and_eq_true] at this
   exact part_gt (List.all_eq_true.1 this.1.2 x h2)
theorem core_gt (a b c : Nat) : ∀ x ∈ showCore a b c, 44 < x.toNat := by
 intro x h
 have hdig : ∀ n, x ∈ dig10 n → 44 < x.toNat := fun n hn => dig_gt (List.all_eq_true.1 (dig10_all n) _ hn)
 unfold showCore at h
 simp only [List.mem_append, List.mem_singleton] at h
 rcases h with (((h | h) | h) | h) | h
 ·exact hdig _ h
 ·subst h; decide
 ·exact hdig _ h
 ·subst h; decide
 ·exact hdig _ h
theorem showL_gt {a b c : Nat} {p : List UInt8} (h : preOk p = true) : ∀ x ∈ showL a b c p, 44 < x.toNat := by
 intro x hx
 unfold showL at hx
 split at hx
 ·exact core_gt _ _ _ x hx
 ·rw [List.append_assoc] at hx
  rcases List.mem_append.1 hx with hx | hx
  ·exact core_gt _ _ _ x hx
  ·rw [List.singleton_append] at hx
   rcases List.mem_cons.1 hx with hx | hx
   ·subst hx; decide
   ·exact pre_gt h x hx
theorem ver_gt {v : V4} {l : List UInt8} (h : v.IsShow l) : ∀ x ∈ l, 44 < x.toNat := by
 rw [← h.2]
 unfold V4.show
 exact showL_gt (verOk_bounds h.1).2.2.2.2.2.2.2
/-- a command -/
structure Cmd where
 word : List UInt8
 args : List (List UInt8)
 body : List UInt8
def Cmd.zero : Cmd := ⟨[], [], []⟩
end Go
