/- Locks: the program's may: a walk. -/
import Derived.Test.YtbihdgnhdlpmgaaGreatDoorLockMath
import Derived.Test.YtbihdgnhdlpmgaaGreatDoorLex1
import Derived.Test.YtbihdgnhdlpmgaaGreatDoorSemProg3
import Derived.Test.YtbihdgnhdlpmgaaGreatDoorCells
namespace Go
open Go.RowKit
theorem box_five {w w1 : World} {x0 x1 x2 x3 x4 : Value} {T : TypeId} (h : Below (w.heap.size + 1) (w.alloc (.cells #[x0, x1, x2, x3, x4] T)) w1) :
    (w1.cell? ⟨w.heap.size, 0, none⟩ = some x0 ∧ w1.cell? ⟨w.heap.size, 1, none⟩ = some x1 ∧ w1.cell? ⟨w.heap.size, 2, none⟩ = some x2 ∧ w1.cell? ⟨w.heap.size, 3, none⟩ = some x3 ∧ w1.cell? ⟨w.heap.size, 4, none⟩ = some x4) ∧
    (w1.frozen? ⟨w.heap.size, 0, none⟩ = false ∧ w1.frozen? ⟨w.heap.size, 1, none⟩ = false ∧ w1.frozen? ⟨w.heap.size, 2, none⟩ = false ∧ w1.frozen? ⟨w.heap.size, 3, none⟩ = false ∧ w1.frozen? ⟨w.heap.size, 4, none⟩ = false) :=
  ⟨⟨box_cells h 0, box_cells h 1, box_cells h 2, box_cells h 3, box_cells h 4⟩, box_free h 0, box_free h 1, box_free h 2, box_free h 3, box_free h 4⟩
theorem keepK5 {P : Program} {f : FuncId} {args : Array Value} {v : Value} (w0 w : World) (B : Nat) (x0 x1 x2 x3 x4 : Value)
    (h : w.cell? ⟨B, 0, none⟩ = some x0 ∧ w.cell? ⟨B, 1, none⟩ = some x1 ∧ w.cell? ⟨B, 2, none⟩ = some x2 ∧ w.cell? ⟨B, 3, none⟩ = some x3 ∧ w.cell? ⟨B, 4, none⟩ = some x4 ∧ Below w0.heap.size w0 w)
    (hc : Calls P f args w fun e w' => e = .returned v ∧ Below w.heap.size w w') :
    Calls P f args w fun e w' => e = .returned v ∧ (w'.cell? ⟨B, 0, none⟩ = some x0 ∧ w'.cell? ⟨B, 1, none⟩ = some x1 ∧ w'.cell? ⟨B, 2, none⟩ = some x2 ∧ w'.cell? ⟨B, 3, none⟩ = some x3 ∧ w'.cell? ⟨B, 4, none⟩ = some x4 ∧ Below w0.heap.size w0 w') := by
  obtain ⟨h0, h1, h2, h3, h4, h5⟩ := h
  exact hc.mono fun _ _ ⟨he, hb⟩ => ⟨he, (hb.cell (p := ⟨B, 0, none⟩) (cell_lt h0)).trans h0, (hb.cell (p := ⟨B, 1, none⟩) (cell_lt h1)).trans h1, (hb.cell (p := ⟨B, 2, none⟩) (cell_lt h2)).trans h2, (hb.cell (p := ⟨B, 3, none⟩) (cell_lt h3)).trans h3, (hb.cell (p := ⟨B, 4, none⟩) (cell_lt h4)).trans h4, below_then h5 hb⟩
theorem keepK6 {P : Program} {f : FuncId} {args : Array Value} {v : Value} (w0 w : World) (c o B : Nat) (y x0 x1 x2 x3 x4 : Value)
    (h : w.cell? ⟨c, o, none⟩ = some y ∧ w.cell? ⟨B, 0, none⟩ = some x0 ∧ w.cell? ⟨B, 1, none⟩ = some x1 ∧ w.cell? ⟨B, 2, none⟩ = some x2 ∧ w.cell? ⟨B, 3, none⟩ = some x3 ∧ w.cell? ⟨B, 4, none⟩ = some x4 ∧ Below w0.heap.size w0 w)
    (hc : Calls P f args w fun e w' => e = .returned v ∧ Below w.heap.size w w') :
    Calls P f args w fun e w' => e = .returned v ∧ (w'.cell? ⟨c, o, none⟩ = some y ∧ w'.cell? ⟨B, 0, none⟩ = some x0 ∧ w'.cell? ⟨B, 1, none⟩ = some x1 ∧ w'.cell? ⟨B, 2, none⟩ = some x2 ∧ w'.cell? ⟨B, 3, none⟩ = some x3 ∧ w'.cell? ⟨B, 4, none⟩ = some x4 ∧ Below w0.heap.size w0 w') := by
  obtain ⟨hy, h0, h1, h2, h3, h4, h5⟩ := h
  exact hc.mono fun _ _ ⟨he, hb⟩ => ⟨he, (hb.cell (p := ⟨c, o, none⟩) (cell_lt hy)).trans hy, (hb.cell (p := ⟨B, 0, none⟩) (cell_lt h0)).trans h0, (hb.cell (p := ⟨B, 1, none⟩) (cell_lt h1)).trans h1, (hb.cell (p := ⟨B, 2, none⟩) (cell_lt h2)).trans h2, (hb.cell (p := ⟨B, 3, none⟩) (cell_lt h3)).trans h3, (hb.cell (p := ⟨B, 4, none⟩) (cell_lt h4)).trans h4, below_then h5 hb⟩
/-- a row of picks, at a later world -/
theorem Piks.row {w w' : World} {a0 : Option Addr} {cap0 : Nat} {ps : List Pik} (h : Piks w (.slice a0 ps.length cap0) ps) (hb : Below w.heap.size w w') {k : Nat} (hk : k < ps.length) :
    ∃ b off, a0 = some ⟨b, off, none⟩ ∧ b < w.heap.size ∧ ∀ j (h : j < ps.length), w'.cell? ⟨b, off + j * 5, none⟩ = some (.string ps[j].name) ∧
      w'.cell? ⟨b, off + j * 5 + 1, none⟩ = some (.int .i64 ps[j].v.a) ∧ w'.cell? ⟨b, off + j * 5 + 2, none⟩ = some (.int .i64 ps[j].v.b) ∧ w'.cell? ⟨b, off + j * 5 + 3, none⟩ = some (.int .i64 ps[j].v.c) ∧
      w'.cell? ⟨b, off + j * 5 + 4, none⟩ = some (.string ps[j].v.p) := by
  rcases h.cases.2 with ⟨a, cap, hva, he⟩ | ⟨b, off, cap, hva, _, hbl, hc⟩
  · rw [he] at hk; cases hk
  · injection hva with hva
    refine ⟨b, off, hva, hbl, fun j hj => ?_⟩
    obtain ⟨g0, g1, g2, g3, g4⟩ := hc j hj
    exact ⟨(hb.cell (p := ⟨b, off + j * 5, none⟩) hbl).trans g0, (hb.cell (p := ⟨b, off + j * 5 + 1, none⟩) hbl).trans g1, (hb.cell (p := ⟨b, off + j * 5 + 2, none⟩) hbl).trans g2, (hb.cell (p := ⟨b, off + j * 5 + 3, none⟩) hbl).trans g3, (hb.cell (p := ⟨b, off + j * 5 + 4, none⟩) hbl).trans g4⟩
/-- the length, told by the slice itself -/
theorem Piks.len {w : World} {v : Value} {ps : List Pik} (h : Piks w v ps) : ∃ a cap, v = .slice a ps.length cap := by
  rcases h.cases.2 with ⟨a, cap, rfl, rfl⟩ | ⟨b, off, cap, rfl, _⟩
  · exact ⟨a, cap, rfl⟩
  · exact ⟨_, cap, rfl⟩
end Go
namespace Go.Proofs.YtbihdgnhdlpmgaaGreatDoor
open Go.RowKit
end Go.Proofs.YtbihdgnhdlpmgaaGreatDoor
