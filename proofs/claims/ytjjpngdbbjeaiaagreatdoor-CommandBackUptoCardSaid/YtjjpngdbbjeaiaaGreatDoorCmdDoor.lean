/- A command that came in. -/
import Derived.Test.YtjjpngdbbjeaiaaGreatDoorSemDoor
import Derived.Test.YtjjpngdbbjeaiaaGreatDoorOpen
namespace Go
open Go.RowKit Go.Deep
section
variable {H : Type} {enc : TypeId × Value → H} {P : Program} {w : World} {base : Nat} {spare : Nat → Bool} {held : Bool}
/-- texts that came in: how they lie, and that each is among the data -/
theorem open_texts {t e : TypeId} (ht : P.underlying t = some (.slice e)) (he : P.underlying e = some .string) (hC : P.cellsOf e = 1)
    {a0 : Option Addr} {len0 cap0 fuel : Nat} {x : DataW H × List MemPlace} (hf : DataW.trod enc P w base spare held fuel t [.slice a0 len0 cap0] = some x) :
    ∃ ls : List (List UInt8), Strs w (.slice a0 len0 cap0) ls ∧ len0 = ls.length ∧ (∀ l ∈ ls, l.length ≤ maxLen) ∧ ((x.1 = .nil ∧ ls = []) ∨ ∃ el sp, x.1 = .slice el sp ∧ ∀ l ∈ ls, DataW.lit (.string l) ∈ el) := by
  rcases open_slice ht hf with ⟨hcs, hx⟩ | ⟨a, len, cap, m, n, D, Pl, hcs, hb, hl, hm, hmm, hx, hi⟩
  · simp at hcs
    obtain ⟨rfl, rfl, rfl⟩ := hcs
    exact ⟨[], ⟨rfl, Nat.zero_le _, .inl ⟨_, _, rfl, rfl, fun _ => rfl⟩⟩, rfl, (fun x hx => by cases hx), .inl ⟨by rw [hx], rfl⟩⟩
  · simp at hcs
    obtain ⟨rfl, rfl, rfl⟩ := hcs
    have hlm : len0 ≤ m := by rw [hmm]; split <;> omega
    have one : ∀ i, i < len0 → ∃ y : List UInt8, y.length ≤ maxLen ∧ D i = .lit (.string y) ∧ w.cell? (a.add i) = some (.string (S y)) := by
      intro i him
      obtain ⟨cs', h1, h2⟩ := hi i (by omega)
      rw [hC, Nat.mul_one] at h1
      obtain ⟨_, hcl, hat⟩ := World.cells?_some h1
      obtain ⟨s, e1, e2, e3⟩ := DataW.trod_string he h2
      refine ⟨s.data.toList, by rw [← Lib.size_eq]; exact e3, by injection e2, ?_⟩
      have := hat 0 (by omega)
      rw [e1] at this
      rw [Go.Deep.add_add, Nat.add_zero] at this
      exact this
    obtain ⟨ls, hlen, hls⟩ : ∃ ls : List (List UInt8), ls.length = len0 ∧ ∀ j (h : j < ls.length), ls[j].length ≤ maxLen ∧ D j = .lit (.string ls[j]) ∧ w.cell? (a.add j) = some (.string (S ls[j])) := by
      refine ⟨List.ofFn fun i : Fin len0 => (one i.1 i.2).choose, by simp, fun j h => ?_⟩
      have := (one j (by simpa using h)).choose_spec
      simpa using this
    refine ⟨ls, ?_, hlen.symm, ?_, .inr ⟨_, _, by rw [hx], ?_⟩⟩
    · rcases Nat.eq_zero_or_pos len0 with h0 | h0
      · subst h0
        exact ⟨by rw [strs_length]; omega, by omega, .inl ⟨_, _, rfl, hlen, fun h => by cases h⟩⟩
      · have hc0 := (hls 0 (by omega)).2.2
        obtain ⟨b, off, spot⟩ := a
        have hspot : spot = none := by simpa [Addr.add] using World.cell?_spot hc0
        subst hspot
        have hadd : ∀ j, (⟨b, off, none⟩ : Addr).add j = ⟨b, off + j, none⟩ := fun j => by unfold Addr.add; split <;> simp_all
        refine ⟨by rw [strs_length]; omega, by omega, .inr ⟨b, off, _, by rw [hlen], by omega, ?_, fun j hj => ?_⟩⟩
        · rw [hadd] at hc0; exact cell_lt hc0
        · have hj2 : j < ls.length := by omega
          rw [← hadd, (hls j hj2).2.2, strs_get ls j hj2]
    · intro l hl
      obtain ⟨j, hj, rfl⟩ := List.getElem_of_mem hl
      exact (hls j hj).1
    · intro l hl
      obtain ⟨j, hj, rfl⟩ := List.getElem_of_mem hl
      rw [← (hls j hj).2.1]
      exact List.mem_map.2 ⟨j, by simp; omega, rfl⟩
end
end Go
namespace Go.Proofs.YtjjpngdbbjeaiaaGreatDoor
open Go.ChangeShapes Go.WideShapes Go.ChangeAt Go.RowKit Go.Deep
section
variable {H : Type} {enc : TypeId × Value → H} {W : World} {r : Reach} {b0 base : Nat} {sp : Nat → Bool} {held : Bool}
theorem bulk_mem {l : List (DataW H)} {x : DataW H} (h : x ∈ l) : Rows.uptoBulk x ≤ Rows.uptoBulkAll l := by
  induction l with
  | nil => cases h
  | cons y l ih =>
    simp only [Rows.uptoBulkAll]
    rcases List.mem_cons.1 h with rfl | h
    · omega
    · have := ih h; omega
set_option maxRecDepth 100000 in
/-- a command that came in; how long its texts are against the whole -/
theorem open_cmd {v : Value} {d : DataW H} {p : List MemPlace} (hv : Value.okWide Tryz.prog W r b0 52 v) (h : DataW.Trod enc Tryz.prog W base sp held 52 v d p) :
    ∃ (X B : ByteArray) (a : Option Addr) (cap : Nat) (T : List (List UInt8)), v = .agg #[.string X, .slice a T.length cap, .string B] ∧ Strs W (.slice a T.length cap) T ∧ X.size ≤ maxLen ∧ B.size ≤ maxLen ∧ (∀ l ∈ T, l.length ≤ maxLen) ∧
      B.size ≤ Rows.uptoBulk d ∧ (∀ l ∈ T, l.length ≤ Rows.uptoBulk d) := by
  obtain ⟨v0, v1, v2, y0, y1, y2, n, rfl, rfl, rfl, t0, t1, t2⟩ := Joins.open_agg3 Tryz.underlying52 (by kernel_rfl) (by kernel_rfl) hv h
  obtain ⟨X, e0, rfl, hX⟩ := DataW.trod_string Tryz.underlying9 t0
  obtain ⟨B, e2, rfl, hB⟩ := DataW.trod_string Tryz.underlying9 t2
  have hs : ∃ a l c, [v1] = [Value.slice a l c] := by
    rcases DataW.trod_slice Tryz.underlying50 t1 with ⟨hcs, _⟩ | ⟨a, l, c, _, _, _, _, hcs, _⟩
    · exact ⟨_, _, _, hcs⟩
    · exact ⟨_, _, _, hcs⟩
  obtain ⟨a, l, c, e1⟩ := hs
  simp at e0 e1 e2
  subst e0 e1 e2
  obtain ⟨T, h1, rfl, h3, h4⟩ := open_texts Tryz.underlying50 Tryz.underlying9 (by kernel_rfl) t1
  refine ⟨X, B, a, c, T, rfl, h1, hX, hB, h3, ?_, fun l hl => ?_⟩
  · have := bulk_mem (H := H) (l := [(DataW.lit (.string X.data.toList) : DataW H), y1.1, .lit (.string B.data.toList)]) (x := .lit (.string B.data.toList)) (by simp)
    simp only [Rows.uptoBulk] at this ⊢
    rw [Lib.size_eq]; omega
  · rcases h4 with ⟨_, rfl⟩ | ⟨el, sp', hy, hel⟩
    · cases hl
    · have h5 := bulk_mem (hel l hl)
      have h6 := bulk_mem (H := H) (l := [(DataW.lit (.string X.data.toList) : DataW H), y1.1, .lit (.string B.data.toList)]) (x := y1.1) (by simp)
      rw [hy] at h6 ⊢
      simp only [Rows.uptoBulk] at h5 h6 ⊢
      omega
end
theorem bulk_one {H : Type} {d : DataW H} {l : List (DataW H)} (hm : d ∈ l) (hk : Rows.uptoSmall H l = true) : Rows.uptoBulk d ≤ 1048576 := Nat.le_trans (bulk_mem hm) (of_decide_eq_true hk)
end Go.Proofs.YtjjpngdbbjeaiaaGreatDoor
