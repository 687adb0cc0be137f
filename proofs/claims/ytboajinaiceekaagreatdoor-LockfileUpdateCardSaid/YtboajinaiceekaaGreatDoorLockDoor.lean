/- A row of picks that came in. -/
import Derived.Test.YtboajinaiceekaaGreatDoorSemDoor
import Derived.Test.YtboajinaiceekaaGreatDoorOpen
import Derived.Test.YtboajinaiceekaaGreatDoorLockPlain
namespace Go.Proofs.YtboajinaiceekaaGreatDoor
open Go.ChangeShapes Go.WideShapes Go.ChangeAt Go.RowKit Go.Deep
section
variable {H : Type} {enc : TypeId × Value → H} {W : World} {r : Reach} {b0 base : Nat} {sp : Nat → Bool} {held : Bool}
set_option maxRecDepth 100000 in
theorem el_ver (n : Nat) (cs : List Value) (y : DataW H × List MemPlace) (h : DataW.trod enc Tryz.prog W base sp held n 45 cs = some y) (hl : cs.length = 4) : ∃ v : V4, v.cells = cs ∧ v.p.size ≤ 9223372036854775807 := by
  obtain ⟨_, _, t0⟩ := field_at Tryz.underlying45 h 0 0 1 _ rfl (by kernel_rfl) (by kernel_rfl)
  obtain ⟨_, _, t1⟩ := field_at Tryz.underlying45 h 1 1 1 _ rfl (by kernel_rfl) (by kernel_rfl)
  obtain ⟨_, _, t2⟩ := field_at Tryz.underlying45 h 2 2 1 _ rfl (by kernel_rfl) (by kernel_rfl)
  obtain ⟨_, _, t3⟩ := field_at Tryz.underlying45 h 3 3 1 _ rfl (by kernel_rfl) (by kernel_rfl)
  obtain ⟨a, e0, _, _⟩ := DataW.trod_int Tryz.underlying3 t0
  obtain ⟨b, e1, _, _⟩ := DataW.trod_int Tryz.underlying3 t1
  obtain ⟨c, e2, _, _⟩ := DataW.trod_int Tryz.underlying3 t2
  obtain ⟨s, e3, _, hs⟩ := DataW.trod_string Tryz.underlying9 t3
  match cs, hl with
  | [c0, c1, c2, c3], _ =>
    simp at e0 e1 e2 e3
    subst e0 e1 e2 e3
    exact ⟨⟨a, b, c, s⟩, rfl, maxLen_le hs⟩
set_option maxRecDepth 100000 in
theorem el_pick (n : Nat) (cs : List Value) (y : DataW H × List MemPlace) (h : DataW.trod enc Tryz.prog W base sp held n 47 cs = some y) (hl : cs.length = 5) : ∃ b : Pik, b.cells = cs ∧ b.v.p.size ≤ 9223372036854775807 := by
  obtain ⟨_, _, t0⟩ := field_at Tryz.underlying47 h 0 0 1 _ rfl (by kernel_rfl) (by kernel_rfl)
  obtain ⟨_, _, t1⟩ := field_at Tryz.underlying47 h 1 1 4 _ rfl (by kernel_rfl) (by kernel_rfl)
  obtain ⟨a, e0, _, _⟩ := DataW.trod_string Tryz.underlying9 t0
  match cs, hl with
  | [c0, c1, c2, c3, c4], _ =>
    obtain ⟨v, e1, hv⟩ := el_ver _ _ _ t1 rfl
    simp at e0 e1
    subst e0
    exact ⟨⟨a, v⟩, by show _ :: v.cells = _; rw [e1], hv⟩
set_option maxRecDepth 100000 in
theorem open_piks {v : Value} {d : DataW H} {p : List MemPlace} (hv : Value.okWide Tryz.prog W r b0 22 v) (h : DataW.Trod enc Tryz.prog W base sp held 22 v d p) :
    ∃ bs : List Pik, Piks W v bs := by
  obtain ⟨a0, len0, cap0, rfl⟩ := okWide_slice Tryz.underlying22 hv
  obtain ⟨fuel, hf⟩ := h
  obtain ⟨bs, h1, rfl, _, h2⟩ := open_row Pik.cells (fun x => x.v.p.size ≤ 9223372036854775807) 5 (by decide) (fun _ => rfl) Tryz.underlying22 (by kernel_rfl) el_pick hf
  exact ⟨bs, h1⟩
end
end Go.Proofs.YtboajinaiceekaaGreatDoor
