/- RangesBack: the plain law. -/
import Derived.Test.YthojbknakmjndaaDoorRanMath3
namespace Go
theorem back_show {bs : List Bnd} (h : rangeOk bs = true) : RParseIs (showR bs) bs 0 := by
  cases bs with
  | nil => exact .inl ⟨rfl, .inl ⟨rfl, rfl⟩⟩
  | cons b bs => exact .inl ⟨rfl, .inr (.inr ⟨by simp, h, rfl⟩)⟩
theorem near_ok {v : V4} (h : v.ok = true) : rangeOk (near v) = true := by
  unfold near
  rw [h, Bool.true_and]
  cases hn : v.next.ok
  · simp [rangeOk, Bnd.ok, opOk, h]
  · simp [rangeOk, Bnd.ok, opOk, h, hn]
theorem back_read {l : List UInt8} {bs : List Bnd} (h : RangeIs l bs) : rangeOk bs = true ∧ (showR bs = l ∨ l.head? = some 94) := by
  rcases h with ⟨h1, h2⟩ | ⟨r, v, h1, h2, h3⟩ | ⟨h1, h2, h3⟩
  · subst h1 h2; exact ⟨rfl, .inl rfl⟩
  · subst h1 h3; exact ⟨near_ok h2.1, .inr rfl⟩
  · refine ⟨h2, .inl ?_⟩
    cases bs with
    | nil => exact absurd rfl h1
    | cons b bs => exact h3
end Go
