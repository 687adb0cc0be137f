/- A slice of versions that came in. -/
import Derived.Test.YtkjifpfaekljaaaDoorSemDoor
import Derived.Test.YtkjifpfaekljaaaDoorSemAwake
import Derived.Deep.Slices
import Derived.Deep.Fields
import Derived.ChangeSame
namespace Go.Proofs.YtkjifpfaekljaaaDoor
open Go.ChangeShapes Go.WideShapes Go.ChangeAt Go.RowKit Go.Deep
section
variable {H : Type} {enc : TypeId × Value → H} {P : Program} {w : World} {base : Nat} {spare : Nat → Bool} {held : Bool}
theorem open_slice_fields {t e : TypeId} {fs : Array Field} {fuel : Nat} {cs : List Value} {x : DataW H × List MemPlace} (ht : P.underlying t = some (.slice e)) (he : P.underlying e = some (.struct fs))
    (hone : oneCellFields P fs = true) (hC : P.cellsOf e = fs.size) (h : DataW.trod enc P w base spare held fuel t cs = some x) :
    (cs = [.slice none 0 0] ∧ x = (.nil, [])) ∨
    ∃ (a : Addr) (len cap m : Nat), cs = [.slice (some a) len cap] ∧ len ≤ cap ∧ cap ≤ maxLen ∧ m = (if spare a.block then cap else len) ∧
      ∀ i, i < m → ∃ (n : Nat), ∀ (j : Nat) (f : Field), fs[j]? = some f → ∃ (v : Value) (y : DataW H × List MemPlace), w.cell? (a.add (i * fs.size + j)) = some v ∧ DataW.trod enc P w base spare held n f.type [v] = some y := by
  rcases open_slice ht h with h0 | ⟨a, len, cap, m, n, D, Pl, hcs, hb, hl, hm, hmm, hx, hi⟩
  · exact .inl h0
  · refine .inr ⟨a, len, cap, m, hcs, hl, hm, hmm, fun i him => ?_⟩
    obtain ⟨cs', hc, ht'⟩ := hi i him
    rw [hC] at hc
    obtain ⟨ys, n', hn', hy, hlen, hyl, hf⟩ := DataW.trod_struct he ht'
    obtain ⟨_, hcl, hat⟩ := World.cells?_some hc
    refine ⟨n', fun j f hj => ?_⟩
    obtain ⟨ho, hk⟩ := hone_of hone j f hj
    have hjl : j < fs.size := (Array.getElem?_eq_some_iff.1 hj).1
    have hcell := hat j hjl
    have hv : cs'[j]? = some (cs'[j]'(by omega)) := List.getElem?_eq_getElem (by omega)
    have h1 := hf j f hj
    rw [ho, hk] at h1
    have hone' : (cs'.drop j).take 1 = [cs'[j]'(by omega)] := by
      rw [List.drop_eq_getElem_cons (by omega)]
      rfl
    rw [hone'] at h1
    have hys : ys[j]? = some (ys[j]'(by omega)) := List.getElem?_eq_getElem (by omega)
    refine ⟨_, _, ?_, h1.trans hys⟩
    rw [← Go.Deep.add_add, hcell, hv]
end
section
variable {H : Type} {enc : TypeId × Value → H} {W : World} {r : Reach} {b0 base : Nat} {sp : Nat → Bool} {held : Bool}
set_option maxRecDepth 100000 in
theorem open_vers {v : Value} {d : DataW H} {p : List MemPlace} (hv : Value.okWide Tryd.prog W r b0 44 v) (h : DataW.Trod enc Tryd.prog W base sp held 44 v d p) :
    ∃ vs : List V4, Vers W v vs ∧ (∃ a cap, v = .slice a vs.length cap) ∧ ∀ x ∈ vs, x.p.size ≤ 9223372036854775807 := by
  obtain ⟨a0, len0, cap0, rfl⟩ := okWide_slice Tryd.underlying44 hv
  obtain ⟨fuel, hf⟩ := h
  rcases open_slice_fields Tryd.underlying44 Tryd.underlying23 (by kernel_rfl) (by kernel_rfl) hf with ⟨hcs, _⟩ | ⟨x, l, c, m, hcs, hl, hm, hmm, hi⟩
  · simp [Value.cells] at hcs
    obtain ⟨rfl, rfl, rfl⟩ := hcs
    exact ⟨[], ⟨rfl, Nat.zero_le _, .inl ⟨_, _, rfl, rfl, fun _ => rfl⟩⟩, ⟨_, _, rfl⟩, fun x hx => by cases hx⟩
  · simp [Value.cells] at hcs
    obtain ⟨rfl, rfl, rfl⟩ := hcs
    have hlm : len0 ≤ m := by rw [hmm]; split <;> omega
    have one : ∀ i, i < len0 → ∃ y : V4, y.p.size ≤ 9223372036854775807 ∧ W.cell? (x.add (i * 4)) = some (.int .i64 y.a) ∧ W.cell? (x.add (i * 4 + 1)) = some (.int .i64 y.b) ∧ W.cell? (x.add (i * 4 + 2)) = some (.int .i64 y.c) ∧ W.cell? (x.add (i * 4 + 3)) = some (.string y.p) := by
      intro i him
      obtain ⟨n, hg⟩ := hi i (by omega)
      obtain ⟨v0, y0, k0, t0⟩ := hg 0 _ rfl
      obtain ⟨v1, y1, k1, t1⟩ := hg 1 _ rfl
      obtain ⟨v2, y2, k2, t2⟩ := hg 2 _ rfl
      obtain ⟨v3, y3, k3, t3⟩ := hg 3 _ rfl
      obtain ⟨a, e0, _, _⟩ := DataW.trod_int Tryd.underlying3 t0
      obtain ⟨b, e1, _, _⟩ := DataW.trod_int Tryd.underlying3 t1
      obtain ⟨c, e2, _, _⟩ := DataW.trod_int Tryd.underlying3 t2
      obtain ⟨s, e3, _, hs⟩ := DataW.trod_string Tryd.underlying9 t3
      simp at e0 e1 e2 e3
      subst e0 e1 e2 e3
      exact ⟨⟨a, b, c, s⟩, maxLen_le hs, k0, k1, k2, k3⟩
    have all : ∃ f : Nat → V4, ∀ i, i < len0 → (f i).p.size ≤ 9223372036854775807 ∧ W.cell? (x.add (i * 4)) = some (.int .i64 (f i).a) ∧ W.cell? (x.add (i * 4 + 1)) = some (.int .i64 (f i).b) ∧ W.cell? (x.add (i * 4 + 2)) = some (.int .i64 (f i).c) ∧ W.cell? (x.add (i * 4 + 3)) = some (.string (f i).p) :=
      ⟨fun i => if h : i < len0 then (one i h).choose else ⟨0, 0, 0, ⟨#[]⟩⟩, fun i hi => by simp only [dif_pos hi]; exact (one i hi).choose_spec⟩
    obtain ⟨f, hF⟩ := all
    have hlen : ((List.range len0).map f).length = len0 := by simp
    refine ⟨(List.range len0).map f, ?_, ⟨_, _, by rw [hlen]⟩, ?_⟩
    · rcases Nat.eq_zero_or_pos len0 with h0 | h0
      · subst h0
        exact ⟨rfl, Nat.zero_le _, .inl ⟨_, _, rfl, rfl, fun h => by cases h⟩⟩
      · have hc0 := (hF 0 h0).2.1
        obtain ⟨b, off, spot⟩ := x
        have hspot : spot = none := by simpa [Addr.add] using World.cell?_spot hc0
        subst hspot
        have hadd : ∀ j, (⟨b, off, none⟩ : Addr).add j = ⟨b, off + j, none⟩ := fun j => by unfold Addr.add; split <;> simp_all
        refine ⟨by rw [vers_len], by rw [hlen]; omega, .inr ⟨b, off, _, by rw [hlen], by rw [hlen]; exact h0, ?_, fun j hj => ?_⟩⟩
        · have h := hc0
          rw [hadd] at h
          exact cell_lt h
        · have hj4 : j = j / 4 * 4 + j % 4 := by omega
          have hi4 : j / 4 < len0 := by omega
          have hr4 : j % 4 < 4 := Nat.mod_lt _ (by decide)
          have hg := vers_get ((List.range len0).map f) (j / 4) (by rw [hlen]; exact hi4) (j % 4) hr4
          rw [← hj4] at hg
          rw [hg]
          obtain ⟨_, g0, g1, g2, g3⟩ := hF (j / 4) hi4
          rw [hadd] at g0 g1 g2 g3
          have hel : ((List.range len0).map f)[j / 4]'(by rw [hlen]; exact hi4) = f (j / 4) := by simp
          rw [hel]
          rcases (show j % 4 = 0 ∨ j % 4 = 1 ∨ j % 4 = 2 ∨ j % 4 = 3 by omega) with h | h | h | h
          · rw [show off + j = off + j / 4 * 4 by omega, g0, h]; rfl
          · rw [show off + j = off + (j / 4 * 4 + 1) by omega, g1, h]; rfl
          · rw [show off + j = off + (j / 4 * 4 + 2) by omega, g2, h]; rfl
          · rw [show off + j = off + (j / 4 * 4 + 3) by omega, g3, h]; rfl
    · intro y hy
      rw [List.mem_map] at hy
      obtain ⟨i, hi2, rfl⟩ := hy
      exact (hF i (by simpa using hi2)).1
end
end Go.Proofs.YtkjifpfaekljaaaDoor
