/- A slice of ranges that came in. -/
import Derived.Test.YthojbknakmjndaaGreatDoorRanDoor
import Derived.Test.YthojbknakmjndaaGreatDoorRanLight
namespace Go.Proofs.YthojbknakmjndaaGreatDoor
open Go.ChangeShapes Go.WideShapes Go.ChangeAt Go.RowKit Go.Deep
theorem fst_flat : ∀ rs : List (Value × List Bnd), rs.flatMap (fun r : Value × List Bnd => [r.1]) = rs.map Prod.fst
  | [] => rfl
  | r :: rs => by rw [List.flatMap_cons, fst_flat rs]; rfl
section
variable {H : Type} {enc : TypeId × Value → H} {W : World} {r : Reach} {b0 base : Nat} {sp : Nat → Bool} {held : Bool}
theorem el_bnds (n : Nat) (cs : List Value) (y : DataW H × List MemPlace) (h : DataW.trod enc Tryz.prog W base sp held n 23 cs = some y) (_ : cs.length = 1) :
    ∃ r : Value × List Bnd, [r.1] = cs ∧ Bnds W r.1 r.2 ∧ (∃ a cap, r.1 = .slice a r.2.length cap) ∧ ∀ x ∈ r.2, x.v.p.size ≤ 9223372036854775807 := by
  have hs : ∃ a l c, cs = [.slice a l c] := by
    rcases DataW.trod_slice Tryz.underlying23 h with ⟨hcs, _⟩ | ⟨a, l, c, _, _, _, _, hcs, _⟩
    · exact ⟨_, _, _, hcs⟩
    · exact ⟨_, _, _, hcs⟩
  obtain ⟨a, l, c, rfl⟩ := hs
  obtain ⟨bs, h1, rfl, _, h2⟩ := open_row Bnd.cells (fun x => x.v.p.size ≤ 9223372036854775807) 5 (by decide) (fun _ => rfl) Tryz.underlying23 (by kernel_rfl) el_bnd h
  exact ⟨(_, bs), rfl, h1, ⟨_, _, rfl⟩, h2⟩
set_option maxRecDepth 100000 in
theorem open_rngs {v : Value} {d : DataW H} {p : List MemPlace} (hv : Value.okWide Tryz.prog W r b0 43 v) (h : DataW.Trod enc Tryz.prog W base sp held 43 v d p) :
    ∃ rs : List (Value × List Bnd), Rngs W v rs ∧ (∃ a cap, v = .slice a rs.length cap) ∧ ∀ r ∈ rs, ∀ x ∈ r.2, x.v.p.size ≤ 9223372036854775807 := by
  obtain ⟨a0, len0, cap0, rfl⟩ := okWide_slice Tryz.underlying43 hv
  obtain ⟨fuel, hf⟩ := h
  obtain ⟨rs, h1, rfl, _, h2⟩ := open_row (fun r : Value × List Bnd => [r.1]) (fun r => Bnds W r.1 r.2 ∧ (∃ a cap, r.1 = .slice a r.2.length cap) ∧ ∀ x ∈ r.2, x.v.p.size ≤ 9223372036854775807) 1 (by decide) (fun _ => rfl) Tryz.underlying43 (by kernel_rfl) el_bnds hf
  rw [fst_flat] at h1
  exact ⟨rs, ⟨h1, fun r hr => ⟨(h2 r hr).1, (h2 r hr).2.1⟩⟩, ⟨_, _, rfl⟩, fun r hr => (h2 r hr).2.2⟩
end
end Go.Proofs.YthojbknakmjndaaGreatDoor
