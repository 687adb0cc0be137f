/- More on what stands below, and on blocks that a call laid. -/
import Derived.Test.YthojbknakmjndaaDoorRows1
namespace Go
open Go.RowKit
theorem box_then {w w1 w2 : World} {o : Obj} (h : Below (w.heap.size + 1) (w.alloc o) w1) (h' : Below w1.heap.size w1 w2) : Below (w.heap.size + 1) (w.alloc o) w2 :=
  h.trans (h'.mono (by have := h.size; simp at this; omega))
theorem box_of {w w1 : World} {o : Obj} (h : Below (w.alloc o).heap.size (w.alloc o) w1) : Below (w.heap.size + 1) (w.alloc o) w1 := h.mono (by simp)
theorem box_of_drew {w w1 : World} {o : Obj} (h : Below (w.alloc o).drew.heap.size (w.alloc o).drew w1) : Below (w.heap.size + 1) (w.alloc o) w1 :=
  ((Below.refl (w.heap.size + 1) (w.alloc o)).drew).trans (h.mono (by simp))
end Go
