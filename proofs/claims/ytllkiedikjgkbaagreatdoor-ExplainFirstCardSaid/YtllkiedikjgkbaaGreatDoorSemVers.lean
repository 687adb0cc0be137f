/- Rows of versions, plainly: how they lie in memory; their order. -/
import Derived.Test.YtllkiedikjgkbaaGreatDoorCells
import Derived.Test.YtllkiedikjgkbaaGreatDoorSemMath
namespace Go
open Go.RowKit
/-- a version -/
structure V4 where
  a : Int
  b : Int
  c : Int
  p : ByteArray
def V4.cells (v : V4) : List Value := [.int .i64 v.a, .int .i64 v.b, .int .i64 v.c, .string v.p]
def V4.val (v : V4) : Value := .agg #[.int .i64 v.a, .int .i64 v.b, .int .i64 v.c, .string v.p]
def Vers (w : World) (v : Value) (vs : List V4) : Prop := Row w 4 v vs.length (vs.flatMap V4.cells)
theorem Vers.below {w w' : World} {v : Value} {vs : List V4} (h : Vers w v vs) {B : Nat} (hb : Below B w w') (hB : w.heap.size ≤ B) : Vers w' v vs := Row.below h hb hB
theorem vers_get (vs : List V4) : ∀ (j : Nat) (h : j < vs.length) (i : Nat), i < 4 → (vs.flatMap V4.cells)[j * 4 + i]? = (vs[j].cells)[i]? := by
  induction vs with
  | nil => intro j h; cases h
  | cons v vs ih =>
    intro j h i hi
    rw [List.flatMap_cons]
    cases j with
    | zero =>
      have : i < v.cells.length := hi
      rw [Nat.zero_mul, Nat.zero_add, List.getElem?_append_left this]; rfl
    | succ j =>
      have hl : v.cells.length = 4 := rfl
      rw [List.getElem?_append_right (by rw [hl]; omega), hl, show (j + 1) * 4 + i - 4 = j * 4 + i by omega, ih j (by simpa using h) i hi]
      rfl
theorem Vers.cases {w : World} {v : Value} {vs : List V4} (h : Vers w v vs) :
    vs.length ≤ maxLen ∧ ((∃ a cap, v = .slice a 0 cap ∧ vs = []) ∨
    ∃ b off cap, v = .slice (some ⟨b, off, none⟩) vs.length cap ∧ 0 < vs.length ∧ b < w.heap.size ∧ ∀ j (h : j < vs.length), w.cell? ⟨b, off + j * 4, none⟩ = some (.int .i64 vs[j].a) ∧
      w.cell? ⟨b, off + j * 4 + 1, none⟩ = some (.int .i64 vs[j].b) ∧ w.cell? ⟨b, off + j * 4 + 2, none⟩ = some (.int .i64 vs[j].c) ∧ w.cell? ⟨b, off + j * 4 + 3, none⟩ = some (.string vs[j].p)) := by
  obtain ⟨h1, h2, ⟨a, cap, h3, h4, _⟩ | ⟨b, off, cap, h3, h4, h5, h6⟩⟩ := h
  · exact ⟨h2, .inl ⟨a, cap, h3, List.eq_nil_of_length_eq_zero h4⟩⟩
  · refine ⟨h2, .inr ⟨b, off, cap, h3, h4, h5, fun j hj => ?_⟩⟩
    have g := fun i hi => (h6 (j * 4 + i) (by omega)).trans (vers_get vs j hj i hi)
    refine ⟨?_, ?_, ?_, ?_⟩
    · have := g 0 (by omega); simpa [V4.cells] using this
    · have := g 1 (by omega); simpa [V4.cells, Nat.add_assoc] using this
    · have := g 2 (by omega); simpa [V4.cells, Nat.add_assoc] using this
    · have := g 3 (by omega); simpa [V4.cells, Nat.add_assoc] using this
def V4.cmp (x y : V4) : Int := cmpV x.a x.b x.c x.p.data.toList y.a y.b y.c y.p.data.toList
theorem good_v4 : OrdG V4.cmp := good_ver.comap fun v : V4 => (⟨v.a, v.b, v.c, v.p.data.toList⟩ : PV)
def V4.zero : V4 := ⟨0, 0, 0, ⟨#[]⟩⟩
end Go
