/- A slice that came in, whose elements lie flat in some cells each. -/
import Derived.Test.YtboajinaiceekaaGreatDoorCells
import Derived.Deep.Slices
import Derived.ChangeSame
namespace Go
open Go.RowKit Go.Deep
theorem flat_len {α : Type} (cells : α → List Value) (K : Nat) (hc : ∀ x, (cells x).length = K) (vs : List α) : (vs.flatMap cells).length = vs.length * K := by
  induction vs with
  | nil => simp
  | cons v vs ih => rw [List.flatMap_cons, List.length_append, ih, List.length_cons, hc, Nat.add_mul]; omega
theorem flat_get {α : Type} (cells : α → List Value) (K : Nat) (hc : ∀ x, (cells x).length = K) (vs : List α) : ∀ (j : Nat) (h : j < vs.length) (i : Nat), i < K → (vs.flatMap cells)[j * K + i]? = (cells vs[j])[i]? := by
  induction vs with
  | nil => intro j h; cases h
  | cons v vs ih =>
    intro j h i hi
    rw [List.flatMap_cons]
    cases j with
    | zero => rw [Nat.zero_mul, Nat.zero_add, List.getElem?_append_left (by rw [hc]; exact hi)]; rfl
    | succ j =>
      rw [List.getElem?_append_right (by rw [hc, Nat.add_mul]; omega), hc, show (j + 1) * K + i - K = j * K + i by rw [Nat.add_mul]; omega, ih j (by simpa using h) i hi]
      rfl
section
variable {H : Type} {enc : TypeId × Value → H} {P : Program} {w : World} {base : Nat} {spare : Nat → Bool} {held : Bool}
/-- a struct's field, at its cells -/
theorem field_at {t : TypeId} {fs : Array Field} {fuel : Nat} {cs : List Value} {x : DataW H × List MemPlace} (ht : P.underlying t = some (.struct fs)) (h : DataW.trod enc P w base spare held fuel t cs = some x)
    (i o k : Nat) (f : Field) (hf : fs[i]? = some f) (ho : f.offset = o) (hk : P.cellsOf f.type = k) : ∃ n y, DataW.trod enc P w base spare held n f.type ((cs.drop o).take k) = some y := by
  obtain ⟨ys, n, _, _, _, hyl, hg⟩ := DataW.trod_struct ht h
  have h1 := hg i f hf
  rw [ho, hk] at h1
  have hi : i < fs.size := (Array.getElem?_eq_some_iff.1 hf).1
  rw [List.getElem?_eq_getElem (show i < ys.length by omega)] at h1
  exact ⟨n, _, h1⟩
theorem open_row {α : Type} (cells : α → List Value) (Pr : α → Prop) (K : Nat) (hK : 0 < K) (hc : ∀ x, (cells x).length = K) {t e : TypeId} (ht : P.underlying t = some (.slice e)) (hC : P.cellsOf e = K)
    (he : ∀ n cs y, DataW.trod enc P w base spare held n e cs = some y → cs.length = K → ∃ x, cells x = cs ∧ Pr x)
    {a0 : Option Addr} {len0 cap0 fuel : Nat} {x : DataW H × List MemPlace} (hf : DataW.trod enc P w base spare held fuel t [.slice a0 len0 cap0] = some x) :
    ∃ vs : List α, Row w K (.slice a0 len0 cap0) vs.length (vs.flatMap cells) ∧ len0 = vs.length ∧ len0 ≤ cap0 ∧ ∀ x ∈ vs, Pr x := by
  rcases open_slice ht hf with ⟨hcs, _⟩ | ⟨a, len, cap, m, n, D, Pl, hcs, hb, hl, hm, hmm, hx, hi⟩
  · simp at hcs
    obtain ⟨rfl, rfl, rfl⟩ := hcs
    exact ⟨[], ⟨by simp, Nat.zero_le _, .inl ⟨_, _, rfl, rfl, fun _ => rfl⟩⟩, rfl, Nat.le_refl _, fun x hx => by cases hx⟩
  · simp at hcs
    obtain ⟨rfl, rfl, rfl⟩ := hcs
    have hlm : len0 ≤ m := by rw [hmm]; split <;> omega
    have one : ∀ i, i < len0 → ∃ y : α, Pr y ∧ ∀ j, j < K → w.cell? (a.add (i * K + j)) = (cells y)[j]? := by
      intro i him
      obtain ⟨cs', h1, h2⟩ := hi i (by omega)
      rw [hC] at h1
      obtain ⟨_, hcl, hat⟩ := World.cells?_some h1
      obtain ⟨y, hy, hp⟩ := he _ _ _ h2 hcl
      exact ⟨y, hp, fun j hj => by rw [← Go.Deep.add_add, hat j hj, hy]⟩
    obtain ⟨vs, hlen, hvs⟩ : ∃ vs : List α, vs.length = len0 ∧ ∀ j (h : j < vs.length), Pr vs[j] ∧ ∀ i, i < K → w.cell? (a.add (j * K + i)) = (cells vs[j])[i]? := by
      refine ⟨List.ofFn fun i : Fin len0 => (one i.1 i.2).choose, by simp, fun j h => ?_⟩
      have := (one j (by simpa using h)).choose_spec
      simpa using this
    refine ⟨vs, ?_, hlen.symm, hl, ?_⟩
    · rcases Nat.eq_zero_or_pos len0 with h0 | h0
      · subst h0
        exact ⟨by rw [flat_len cells K hc], by omega, .inl ⟨_, _, rfl, hlen, fun h => by cases h⟩⟩
      · have hc0 := (hvs 0 (by omega)).2 0 hK
        rw [List.getElem?_eq_getElem (by rw [hc]; exact hK)] at hc0
        obtain ⟨b, off, spot⟩ := a
        have hspot : spot = none := by simpa [Addr.add] using World.cell?_spot hc0
        subst hspot
        have hadd : ∀ j, (⟨b, off, none⟩ : Addr).add j = ⟨b, off + j, none⟩ := fun j => by unfold Addr.add; split <;> simp_all
        refine ⟨by rw [flat_len cells K hc], by omega, .inr ⟨b, off, _, by rw [hlen], by omega, ?_, fun j hj => ?_⟩⟩
        · rw [hadd] at hc0; exact cell_lt hc0
        · have hj4 : j = j / K * K + j % K := by have := Nat.div_add_mod j K; rw [Nat.mul_comm] at this; omega
          have hi4 : j / K < vs.length := (Nat.div_lt_iff_lt_mul hK).2 hj
          have hr4 : j % K < K := Nat.mod_lt _ hK
          have hg := flat_get cells K hc vs (j / K) hi4 (j % K) hr4
          rw [← hj4] at hg
          rw [hg, ← (hvs (j / K) hi4).2 (j % K) hr4, hadd, ← hj4]
    · intro x hx
      obtain ⟨j, hj, rfl⟩ := List.getElem_of_mem hx
      exact (hvs j hj).1
end
end Go
