/- The least form of a least form, in plain Lean. -/
import Derived.Test.YthojbknakmjndaaGreatDoorRanMath5
namespace Go
open Go.RowKit
theorem v4_eq {x y : V4} (hx : x.ok = true) (hy : y.ok = true) (h : V4.cmp x y = 0) : x = y := by
  have := cmpV_zero hx hy h
  exact V4.ext' this.1 this.2.1 this.2.2.1 this.2.2.2
/-- where a lower end stands: further up is greater -/
def leLo (x y : Bnd) : Prop := V4.cmp x.v y.v < 0 ∨ (V4.cmp x.v y.v = 0 ∧ x.op ≤ y.op)
def leHi (x y : Bnd) : Prop := 0 < V4.cmp x.v y.v ∨ (V4.cmp x.v y.v = 0 ∧ y.op ≤ x.op)
def IsLo (xs : List Bnd) (e : Bnd) : Prop := (xs = [] ∧ e = Bnd.zero) ∨ ((∃ z ∈ xs, toLo z = e) ∧ ∀ z ∈ xs, leLo (toLo z) e)
def IsHi (xs : List Bnd) (e : Bnd) : Prop := (xs = [] ∧ e = Bnd.zero) ∨ ((∃ z ∈ xs, toHi z = e) ∧ ∀ z ∈ xs, leHi (toHi z) e)
theorem leLo_refl (x : Bnd) : leLo x x := .inr ⟨good_v4.self x.v, Int.le_refl _⟩
theorem leHi_refl (x : Bnd) : leHi x x := .inr ⟨good_v4.self x.v, Int.le_refl _⟩
theorem leLo_trans {x y z : Bnd} (h1 : leLo x y) (h2 : leLo y z) : leLo x z := by
  have G := good_v4
  rcases h1 with h1 | ⟨h1, h1'⟩ <;> rcases h2 with h2 | ⟨h2, h2'⟩
  · exact .inl (G.lt_le h1 (by omega))
  · exact .inl (G.lt_le h1 (by omega))
  · exact .inl (G.le_lt (by omega) h2)
  · exact .inr ⟨G.eq_trans h1 h2, by omega⟩
theorem leHi_trans {x y z : Bnd} (h1 : leHi x y) (h2 : leHi y z) : leHi x z := by
  have G := good_v4
  rcases h1 with h1 | ⟨h1, h1'⟩ <;> rcases h2 with h2 | ⟨h2, h2'⟩
  · exact .inl (G.gt_ge h1 (by omega))
  · exact .inl (G.gt_ge h1 (by omega))
  · exact .inl (G.ge_gt (by omega) h2)
  · exact .inr ⟨G.eq_trans h1 h2, by omega⟩
theorem leLo_anti {x y : Bnd} (hx : x.v.ok = true) (hy : y.v.ok = true) (h1 : leLo x y) (h2 : leLo y x) : x = y := by
  have e := good_v4.1 x.v y.v
  have h3 : V4.cmp x.v y.v = 0 ∧ x.op = y.op := by
    rcases h1 with h1 | ⟨h1, h1'⟩ <;> rcases h2 with h2 | ⟨h2, h2'⟩ <;> constructor <;> omega
  have := v4_eq hx hy h3.1
  obtain ⟨o, v⟩ := x
  obtain ⟨o', v'⟩ := y
  simp only at h3 this
  rw [this, h3.2]
theorem leHi_anti {x y : Bnd} (hx : x.v.ok = true) (hy : y.v.ok = true) (h1 : leHi x y) (h2 : leHi y x) : x = y := by
  have e := good_v4.1 x.v y.v
  have h3 : V4.cmp x.v y.v = 0 ∧ x.op = y.op := by
    rcases h1 with h1 | ⟨h1, h1'⟩ <;> rcases h2 with h2 | ⟨h2, h2'⟩ <;> constructor <;> omega
  have := v4_eq hx hy h3.1
  obtain ⟨o, v⟩ := x
  obtain ⟨o', v'⟩ := y
  simp only at h3 this
  rw [this, h3.2]
theorem toLo_ver (b : Bnd) : (toLo b).v = b.v := by unfold toLo; split <;> rfl
theorem toHi_ver (b : Bnd) : (toHi b).v = b.v := by unfold toHi; split <;> rfl
theorem IsLo.uniq {xs ys : List Bnd} {e e' : Bnd} (hx : ∀ z ∈ xs, z.v.ok = true) (hs : ∀ z, z ∈ xs ↔ z ∈ ys) (h : IsLo xs e) (h' : IsLo ys e') : e = e' := by
  rcases h with ⟨h1, h2⟩ | ⟨⟨z, hz, hze⟩, hall⟩ <;> rcases h' with ⟨g1, g2⟩ | ⟨⟨y, hy, hye⟩, hall'⟩
  · rw [h2, g2]
  · have := (hs y).2 hy; rw [h1] at this; cases this
  · have := (hs z).1 hz; rw [g1] at this; cases this
  · have hy2 := (hs y).2 hy
    have o1 : e.v.ok = true := by rw [← hze, toLo_ver]; exact hx z hz
    have o2 : e'.v.ok = true := by rw [← hye, toLo_ver]; exact hx y hy2
    refine leLo_anti o1 o2 ?_ ?_
    · rw [← hze]; exact hall' z ((hs z).1 hz)
    · rw [← hye]; exact hall y hy2
theorem IsHi.uniq {xs ys : List Bnd} {e e' : Bnd} (hx : ∀ z ∈ xs, z.v.ok = true) (hs : ∀ z, z ∈ xs ↔ z ∈ ys) (h : IsHi xs e) (h' : IsHi ys e') : e = e' := by
  rcases h with ⟨h1, h2⟩ | ⟨⟨z, hz, hze⟩, hall⟩ <;> rcases h' with ⟨g1, g2⟩ | ⟨⟨y, hy, hye⟩, hall'⟩
  · rw [h2, g2]
  · have := (hs y).2 hy; rw [h1] at this; cases this
  · have := (hs z).1 hz; rw [g1] at this; cases this
  · have hy2 := (hs y).2 hy
    have o1 : e.v.ok = true := by rw [← hze, toHi_ver]; exact hx z hz
    have o2 : e'.v.ok = true := by rw [← hye, toHi_ver]; exact hx y hy2
    refine leHi_anti o1 o2 ?_ ?_
    · rw [← hze]; exact hall' z ((hs z).1 hz)
    · rw [← hye]; exact hall y hy2
theorem isLo_step {xs : List Bnd} {e z : Bnd} (h : IsLo xs e) (he : xs ≠ [] → e.op = 4 ∨ e.op = 5) (h3 : 3 ≤ z.op) (h5 : z.op ≤ 5) : IsLo (xs ++ [z]) (stepLo e z) := by
  have hz := toLo_max h3
  have G := good_v4
  have hmo : maxOp z.op = 4 ∨ maxOp z.op = 5 := by unfold maxOp; split <;> omega
  unfold stepLo
  rw [if_pos h3]
  right
  rcases h with ⟨h1, h2⟩ | ⟨⟨y, hy, hye⟩, hall⟩
  · rw [h1, h2, if_pos (.inl rfl), ← hz]
    refine ⟨⟨z, by simp, rfl⟩, fun w hw => ?_⟩
    simp at hw; subst hw; exact leLo_refl _
  · have hne : xs ≠ [] := by intro e; rw [e] at hy; cases hy
    have heo := he hne
    split
    · rename_i hc
      rw [← hz]
      refine ⟨⟨z, by simp, rfl⟩, fun w hw => ?_⟩
      rcases List.mem_append.1 hw with hw | hw
      · refine leLo_trans (hall w hw) ?_
        have er := G.1 z.v e.v
        rw [hz]
        rcases hc with hc | hc | ⟨hc1, hc2, hc3⟩
        · omega
        · left; show V4.cmp e.v z.v < 0; omega
        · right; exact ⟨by show V4.cmp e.v z.v = 0; omega, by show e.op ≤ maxOp z.op; omega⟩
      · simp at hw; subst hw; exact leLo_refl _
    · rename_i hc
      refine ⟨⟨y, by simp [hy], hye⟩, fun w hw => ?_⟩
      rcases List.mem_append.1 hw with hw | hw
      · exact hall w hw
      · simp at hw; subst hw
        rw [hz]
        by_cases hlt : V4.cmp w.v e.v < 0
        · exact .inl hlt
        · have h0 : V4.cmp w.v e.v = 0 := by
            by_cases hp : 0 < V4.cmp w.v e.v
            · exact absurd (.inr (.inl hp)) hc
            · omega
          right
          refine ⟨h0, ?_⟩
          show maxOp w.op ≤ e.op
          by_cases h55 : maxOp w.op = 5 ∧ e.op = 4
          · exact absurd (.inr (.inr ⟨h0, h55.1, h55.2⟩)) hc
          · omega
theorem isHi_step {xs : List Bnd} {e z : Bnd} (h : IsHi xs e) (he : xs ≠ [] → e.op = 1 ∨ e.op = 2) (h1' : 1 ≤ z.op) (h3 : z.op ≤ 3) : IsHi (xs ++ [z]) (stepHi e z) := by
  have hz := toHi_min h3
  have G := good_v4
  have hmo : minOp z.op = 1 ∨ minOp z.op = 2 := by unfold minOp; split <;> omega
  unfold stepHi
  rw [if_pos h3]
  right
  rcases h with ⟨h1, h2⟩ | ⟨⟨y, hy, hye⟩, hall⟩
  · rw [h1, h2, if_pos (.inl rfl), ← hz]
    refine ⟨⟨z, by simp, rfl⟩, fun w hw => ?_⟩
    simp at hw; subst hw; exact leHi_refl _
  · have hne : xs ≠ [] := by intro e; rw [e] at hy; cases hy
    have heo := he hne
    split
    · rename_i hc
      rw [← hz]
      refine ⟨⟨z, by simp, rfl⟩, fun w hw => ?_⟩
      rcases List.mem_append.1 hw with hw | hw
      · refine leHi_trans (hall w hw) ?_
        have er := G.1 z.v e.v
        rw [hz]
        rcases hc with hc | hc | ⟨hc1, hc2, hc3⟩
        · omega
        · left; show 0 < V4.cmp e.v z.v; omega
        · right; exact ⟨by show V4.cmp e.v z.v = 0; omega, by show minOp z.op ≤ e.op; omega⟩
      · simp at hw; subst hw; exact leHi_refl _
    · rename_i hc
      refine ⟨⟨y, by simp [hy], hye⟩, fun w hw => ?_⟩
      rcases List.mem_append.1 hw with hw | hw
      · exact hall w hw
      · simp at hw; subst hw
        rw [hz]
        by_cases hlt : 0 < V4.cmp w.v e.v
        · exact .inl hlt
        · have h0 : V4.cmp w.v e.v = 0 := by
            by_cases hp : V4.cmp w.v e.v < 0
            · exact absurd (.inr (.inl hp)) hc
            · omega
          right
          refine ⟨h0, ?_⟩
          show e.op ≤ minOp w.op
          by_cases h55 : minOp w.op = 1 ∧ e.op = 2
          · exact absurd (.inr (.inr ⟨h0, h55.1, h55.2⟩)) hc
          · omega
theorem ends_is (bs : List Bnd) : IsLo (lows bs) (endsOf bs).lo ∧ IsHi (highs bs) (endsOf bs).hi ∧ (lows bs ≠ [] → (endsOf bs).lo.op = 4 ∨ (endsOf bs).lo.op = 5) ∧ (highs bs ≠ [] → (endsOf bs).hi.op = 1 ∨ (endsOf bs).hi.op = 2) := by
  have key : ∀ n (bs : List Bnd), bs.length = n → IsLo (lows bs) (endsOf bs).lo ∧ IsHi (highs bs) (endsOf bs).hi ∧ (lows bs ≠ [] → (endsOf bs).lo.op = 4 ∨ (endsOf bs).lo.op = 5) ∧ (highs bs ≠ [] → (endsOf bs).hi.op = 1 ∨ (endsOf bs).hi.op = 2) := by
    intro n
    induction n with
    | zero => intro bs h; rw [List.eq_nil_of_length_eq_zero h]; exact ⟨.inl ⟨rfl, rfl⟩, .inl ⟨rfl, rfl⟩, fun h => absurd rfl h, fun h => absurd rfl h⟩
    | succ n ih =>
      intro bs hl
      have hne : bs ≠ [] := by intro e; rw [e] at hl; cases hl
      obtain ⟨us, x, rfl⟩ : ∃ us x, bs = us ++ [x] := ⟨bs.dropLast, bs.getLast hne, (List.dropLast_concat_getLast hne).symm⟩
      have hu : us.length = n := by simp at hl; omega
      obtain ⟨h1, h2, h3, h4⟩ := ih us hu
      have hf := fix_bounds x
      have hops := ends_ops (us ++ [x])
      rw [endsOf_snoc] at hops ⊢
      rw [lows_snoc, highs_snoc]
      obtain ⟨z, hz⟩ : ∃ z, x.fix = z := ⟨_, rfl⟩
      have el : ((endsOf us).add x).lo = stepLo (endsOf us).lo z := by rw [← hz]; rfl
      have eh : ((endsOf us).add x).hi = stepHi (endsOf us).hi z := by rw [← hz]; rfl
      rw [el, eh] at hops ⊢
      rw [hz] at hf ⊢
      have a1 : IsLo (if 3 ≤ z.op then lows us ++ [z] else lows us) (stepLo (endsOf us).lo z) := by
        by_cases hlo : 3 ≤ z.op
        · rw [if_pos hlo]; exact isLo_step h1 h3 hlo hf.2
        · rw [if_neg hlo]; unfold stepLo; rw [if_neg hlo]; exact h1
      have a2 : IsHi (if z.op ≤ 3 then highs us ++ [z] else highs us) (stepHi (endsOf us).hi z) := by
        by_cases hhi : z.op ≤ 3
        · rw [if_pos hhi]; exact isHi_step h2 h4 hf.1 hhi
        · rw [if_neg hhi]; unfold stepHi; rw [if_neg hhi]; exact h2
      refine ⟨a1, a2, fun hn => ?_, fun hn => ?_⟩
      · rcases a1 with ⟨b1, _⟩ | ⟨⟨y, hy, hye⟩, _⟩
        · exact absurd b1 hn
        · have hyo : 3 ≤ y.op := by
            have hmem : y ∈ lows us ∨ y = z ∧ 3 ≤ z.op := by
              split at hy
              · rename_i h3z
                rcases List.mem_append.1 hy with h | h
                · exact .inl h
                · simp at h; exact .inr ⟨h, h3z⟩
              · exact .inl hy
            rcases hmem with h | ⟨rfl, h⟩
            · unfold lows at h; have := (List.mem_filter.1 h).2; simpa using this
            · exact h
          rcases hops.1 with h | h
          · exfalso
            rw [← hye, toLo_max hyo] at h
            unfold maxOp at h
            simp only at h
            split at h <;> omega
          · exact h
      · rcases a2 with ⟨b1, _⟩ | ⟨⟨y, hy, hye⟩, _⟩
        · exact absurd b1 hn
        · have hyo : 1 ≤ y.op ∧ y.op ≤ 3 := by
            have hmem : y ∈ highs us ∨ y = z ∧ z.op ≤ 3 := by
              split at hy
              · rename_i h3z
                rcases List.mem_append.1 hy with h | h
                · exact .inl h
                · simp at h; exact .inr ⟨h, h3z⟩
              · exact .inl hy
            rcases hmem with h | ⟨rfl, h⟩
            · unfold highs at h
              have h2 := (List.mem_filter.1 h).2
              have h3 := (List.mem_filter.1 h).1
              rw [List.mem_map] at h3
              obtain ⟨q, _, hq⟩ := h3
              have := fix_bounds q
              rw [hq] at this
              exact ⟨this.1, by simpa using h2⟩
            · exact ⟨hf.1, h⟩
          rcases hops.2 with h | h
          · exfalso
            rw [← hye, toHi_min hyo.2] at h
            unfold minOp at h
            simp only at h
            split at h <;> omega
          · exact h
  exact key _ bs rfl
end Go
