/- How a slice of texts reads; regions that end in what makes memory. -/
import Derived.Test.YthojbknakmjndaaDoorRows0
import Derived.StillTailTactics
import Derived.Deep.QuietTactic
import Derived.Lib.Hide
namespace Go
open Go.RowKit
theorem region_still_tail {P : Program} {id : Nat} {Q : Exit → Act → World → Prop} {a : Act} {w : World} {l : List Oper} (n : Nat) (hm : P.follows .mixedOrders = true) (hB : Region.lexTailB .any l.toArray n = true)
    (h : wpStill P l.toArray w.drew (fun a' => wpList P l.toArray Q (l.drop n) a' w.drew) (l.take n) a) : (Code.region id l.toArray true).wp P Q a w :=
  wp_region_still_tail n hm hB h
theorem below_then {a w w' : World} (h : Below a.heap.size a w) (h' : Below w.heap.size w w') : Below a.heap.size a w' := h.trans (h'.mono h.size)
theorem cell_lt {w : World} {b o : Nat} {v : Value} (h : w.cell? ⟨b, o, none⟩ = some v) : b < w.heap.size := by
  rcases Nat.lt_or_ge b w.heap.size with hg | hg
  · exact hg
  · simp [World.cell?, Array.getElem?_eq_none hg] at h
/-- texts -/
def strs (ls : List (List UInt8)) : List Value := ls.map fun l => Value.string (S l)
theorem strs_length (ls : List (List UInt8)) : (strs ls).length = ls.length := by simp [strs]
theorem strs_get (ls : List (List UInt8)) (j : Nat) (h : j < ls.length) : (strs ls)[j]? = some (.string (S ls[j])) := by simp [strs, h]
def Strs (w : World) (v : Value) (ls : List (List UInt8)) : Prop := Row w 1 v ls.length (strs ls)
theorem Strs.below {w w' : World} {v : Value} {ls : List (List UInt8)} (h : Strs w v ls) {B : Nat} (hb : Below B w w') (hB : w.heap.size ≤ B) : Strs w' v ls := Row.below h hb hB
theorem Strs.of_owns {w : World} {base : Nat} {e : TypeId} {v : Value} {n : Nat} {ls : List (List UInt8)} (h : w.ownsRow base e 1 v n (strs ls)) : Strs w v ls := by
  have h1 : n = ls.length := by have := h.1; rw [strs_length] at this; omega
  subst h1; exact Row.of_owns h
theorem Strs.cases {w : World} {v : Value} {ls : List (List UInt8)} (h : Strs w v ls) :
    ls.length ≤ maxLen ∧ ((∃ a cap, v = .slice a 0 cap ∧ ls = []) ∨
    ∃ b off cap, v = .slice (some ⟨b, off, none⟩) ls.length cap ∧ 0 < ls.length ∧ b < w.heap.size ∧ ∀ j (h : j < ls.length), w.cell? ⟨b, off + j, none⟩ = some (.string (S ls[j]))) := by
  obtain ⟨h1, h2, ⟨a, cap, h3, h4, _⟩ | ⟨b, off, cap, h3, h4, h5, h6⟩⟩ := h
  · exact ⟨h2, .inl ⟨a, cap, h3, List.eq_nil_of_length_eq_zero h4⟩⟩
  · refine ⟨h2, .inr ⟨b, off, cap, h3, h4, h5, fun j hj => ?_⟩⟩
    rw [h6 j (by omega), strs_get ls j hj]
theorem Strs.full {w : World} {v : Value} {ls : List (List UInt8)} (h : Strs w v ls) (hn : 0 < ls.length) :
    ∃ b off cap, v = .slice (some ⟨b, off, none⟩) ls.length cap ∧ b < w.heap.size ∧ ∀ j (h : j < ls.length), w.cell? ⟨b, off + j, none⟩ = some (.string (S ls[j])) := by
  obtain ⟨_, ⟨_, _, _, rfl⟩ | ⟨b, off, cap, h1, _, h2, h3⟩⟩ := h.cases
  · cases hn
  · exact ⟨b, off, cap, h1, h2, h3⟩
theorem Below_heap_new (w : World) (o : Obj) : (w.alloc o).heap[w.heap.size]? = some o := by
  show (w.heap.push o)[w.heap.size]? = _
  simp
/-- the cells of a block that the call laid first -/
theorem box_cells {w w1 : World} {cs : Array Value} {T : TypeId} (h : Below (w.heap.size + 1) (w.alloc (.cells cs T)) w1) (j : Nat) : w1.cell? ⟨w.heap.size, j, none⟩ = cs[j]? := by
  have e : (w.alloc (.cells cs T)).heap[w.heap.size]? = some (.cells cs T) := Below_heap_new w _
  rw [h.cell (p := ⟨w.heap.size, j, none⟩) (Nat.lt_succ_self _)]
  simp only [World.cell?, e]; rfl
theorem box_free {w w1 : World} {cs : Array Value} {T : TypeId} (h : Below (w.heap.size + 1) (w.alloc (.cells cs T)) w1) (j : Nat) : w1.frozen? ⟨w.heap.size, j, none⟩ = false := by
  have e : (w.alloc (.cells cs T)).heap[w.heap.size]? = some (.cells cs T) := Below_heap_new w _
  rw [h.frozen (p := ⟨w.heap.size, j, none⟩) (Nat.lt_succ_self _)]
  simp only [World.frozen?, e]
  simp
end Go
