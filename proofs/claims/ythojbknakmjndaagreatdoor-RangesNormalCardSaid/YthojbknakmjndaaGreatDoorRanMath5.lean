/- What the least form of ranges meets, in plain Lean. -/
import Derived.Test.YthojbknakmjndaaGreatDoorRanMath4
namespace Go
open Go.RowKit
section
variable {α : Type} {f : α → α → Int}
theorem OrdG.ge_gt (h : OrdG f) {a b c : α} (h1 : 0 ≤ f a b) (h2 : 0 < f b c) : 0 < f a c := by
  have e1 := h.1 a b
  have e2 := h.1 b c
  have e3 := h.1 a c
  have := h.lt_le (a := c) (b := b) (c := a) (by omega) (by omega)
  omega
theorem OrdG.gt_ge (h : OrdG f) {a b c : α} (h1 : 0 < f a b) (h2 : 0 ≤ f b c) : 0 < f a c := by
  have e1 := h.1 a b
  have e2 := h.1 b c
  have e3 := h.1 a c
  have := h.le_lt (a := c) (b := b) (c := a) (by omega) (by omega)
  omega
theorem OrdG.ge_ge (h : OrdG f) {a b c : α} (h1 : 0 ≤ f a b) (h2 : 0 ≤ f b c) : 0 ≤ f a c := by
  have e1 := h.1 a b
  have e2 := h.1 b c
  have e3 := h.1 a c
  have := h.2 c b a (by omega) (by omega)
  omega
theorem OrdG.le_le (h : OrdG f) {a b c : α} (h1 : f a b ≤ 0) (h2 : f b c ≤ 0) : f a c ≤ 0 := h.2 a b c h1 h2
theorem OrdG.rev0 (h : OrdG f) {a b : α} (h1 : f a b = 0) : f b a = 0 := by have := h.1 a b; omega
end
/-- is a version not below the lower end, not above the upper one? -/
def mLo (v : V4) (e : Bnd) : Bool := if e.op = 0 then true else if e.op = 5 then decide (0 < V4.cmp v e.v) else decide (0 ≤ V4.cmp v e.v)
def mHi (v : V4) (e : Bnd) : Bool := if e.op = 0 then true else if e.op = 1 then decide (V4.cmp v e.v < 0) else decide (V4.cmp v e.v ≤ 0)
theorem mLo_step (v : V4) {e z : Bnd} (he : e.op = 0 ∨ e.op = 4 ∨ e.op = 5) (h3 : 3 ≤ z.op) (h5 : z.op ≤ 5) : mLo v (stepLo e z) = (mLo v e && if z.op = 5 then decide (0 < V4.cmp v z.v) else decide (0 ≤ V4.cmp v z.v)) := by
  have G := good_v4
  have hmax : (maxOp z.op = 5 ↔ z.op = 5) ∧ maxOp z.op ≠ 0 := by unfold maxOp; split <;> omega
  have hz : mLo v ⟨maxOp z.op, z.v⟩ = if z.op = 5 then decide (0 < V4.cmp v z.v) else decide (0 ≤ V4.cmp v z.v) := by
    unfold mLo
    rw [if_neg hmax.2]
    by_cases h : z.op = 5
    · rw [if_pos (hmax.1.2 h), if_pos h]
    · rw [if_neg (fun h' => h (hmax.1.1 h')), if_neg h]
  have er := G.1 z.v e.v
  unfold stepLo
  rw [if_pos h3]
  by_cases h0 : e.op = 0
  · rw [if_pos (.inl h0), hz]
    unfold mLo; rw [if_pos h0, Bool.true_and]
  · have hme : mLo v e = if e.op = 5 then decide (0 < V4.cmp v e.v) else decide (0 ≤ V4.cmp v e.v) := by unfold mLo; rw [if_neg h0]
    split
    · rename_i hc
      rw [hz, hme]
      rcases hc with hc | hc | ⟨hc1, hc2, hc3⟩
      · exact absurd hc h0
      · -- z above e
        have key : 0 ≤ V4.cmp v z.v → 0 < V4.cmp v e.v := fun h => G.ge_gt h hc
        by_cases h5' : z.op = 5
        · rw [if_pos h5']
          by_cases h1 : 0 < V4.cmp v z.v
          · have := key (by omega)
            rw [decide_eq_true h1, decide_eq_true this, decide_eq_true (show 0 ≤ V4.cmp v e.v by omega)]; simp
          · rw [decide_eq_false h1]; simp
        · rw [if_neg h5']
          by_cases h1 : 0 ≤ V4.cmp v z.v
          · have := key h1
            rw [decide_eq_true h1, decide_eq_true this, decide_eq_true (show 0 ≤ V4.cmp v e.v by omega)]; simp
          · rw [decide_eq_false h1]; simp
      · have h5' := hmax.1.1 hc2
        rw [if_pos h5', hc3, if_neg (by decide)]
        by_cases h1 : 0 < V4.cmp v z.v
        · have := G.gt_ge h1 (show 0 ≤ V4.cmp z.v e.v by omega)
          rw [decide_eq_true h1, decide_eq_true (show 0 ≤ V4.cmp v e.v by omega)]; rfl
        · rw [decide_eq_false h1]; simp
    · rename_i hc
      have hle : V4.cmp z.v e.v ≤ 0 := by
        by_cases h : 0 < V4.cmp z.v e.v
        · exact absurd (.inr (.inl h)) hc
        · omega
      rw [hme]
      by_cases he5 : e.op = 5
      · rw [if_pos he5]
        by_cases h1 : 0 < V4.cmp v e.v
        · have := G.gt_ge h1 (show 0 ≤ V4.cmp e.v z.v by omega)
          rw [decide_eq_true h1, decide_eq_true this, decide_eq_true (show 0 ≤ V4.cmp v z.v by omega)]; simp
        · rw [decide_eq_false h1]; simp
      · rw [if_neg he5]
        by_cases h1 : 0 ≤ V4.cmp v e.v
        · by_cases hlt : V4.cmp z.v e.v < 0
          · have := G.ge_gt h1 (show 0 < V4.cmp e.v z.v by omega)
            rw [decide_eq_true h1, decide_eq_true this, decide_eq_true (show 0 ≤ V4.cmp v z.v by omega)]; simp
          · have hz5 : z.op ≠ 5 := fun h => hc (.inr (.inr ⟨by omega, hmax.1.2 h, by omega⟩))
            have := G.ge_ge h1 (show 0 ≤ V4.cmp e.v z.v by omega)
            rw [if_neg hz5, decide_eq_true h1, decide_eq_true this]; rfl
        · rw [decide_eq_false h1]; simp
theorem mHi_step (v : V4) {e z : Bnd} (he : e.op = 0 ∨ e.op = 1 ∨ e.op = 2) (h1 : 1 ≤ z.op) (h3 : z.op ≤ 3) : mHi v (stepHi e z) = (mHi v e && if z.op = 1 then decide (V4.cmp v z.v < 0) else decide (V4.cmp v z.v ≤ 0)) := by
  have G := good_v4
  have hmin : (minOp z.op = 1 ↔ z.op = 1) ∧ minOp z.op ≠ 0 := by unfold minOp; split <;> omega
  have hz : mHi v ⟨minOp z.op, z.v⟩ = if z.op = 1 then decide (V4.cmp v z.v < 0) else decide (V4.cmp v z.v ≤ 0) := by
    unfold mHi
    rw [if_neg hmin.2]
    by_cases h : z.op = 1
    · rw [if_pos (hmin.1.2 h), if_pos h]
    · rw [if_neg (fun h' => h (hmin.1.1 h')), if_neg h]
  have er := G.1 z.v e.v
  unfold stepHi
  rw [if_pos h3]
  by_cases h0 : e.op = 0
  · rw [if_pos (.inl h0), hz]
    unfold mHi; rw [if_pos h0, Bool.true_and]
  · have hme : mHi v e = if e.op = 1 then decide (V4.cmp v e.v < 0) else decide (V4.cmp v e.v ≤ 0) := by unfold mHi; rw [if_neg h0]
    split
    · rename_i hc
      rw [hz, hme]
      rcases hc with hc | hc | ⟨hc1, hc2, hc3⟩
      · exact absurd hc h0
      · have key : V4.cmp v z.v ≤ 0 → V4.cmp v e.v < 0 := fun h => G.le_lt h hc
        by_cases h5' : z.op = 1
        · rw [if_pos h5']
          by_cases h1 : V4.cmp v z.v < 0
          · have := key (by omega)
            rw [decide_eq_true h1, decide_eq_true this, decide_eq_true (show V4.cmp v e.v ≤ 0 by omega)]; simp
          · rw [decide_eq_false h1]; simp
        · rw [if_neg h5']
          by_cases h1 : V4.cmp v z.v ≤ 0
          · have := key h1
            rw [decide_eq_true h1, decide_eq_true this, decide_eq_true (show V4.cmp v e.v ≤ 0 by omega)]; simp
          · rw [decide_eq_false h1]; simp
      · have h5' := hmin.1.1 hc2
        rw [if_pos h5', hc3, if_neg (by decide)]
        by_cases h1 : V4.cmp v z.v < 0
        · have := G.lt_le h1 (show V4.cmp z.v e.v ≤ 0 by omega)
          rw [decide_eq_true h1, decide_eq_true (show V4.cmp v e.v ≤ 0 by omega)]; rfl
        · rw [decide_eq_false h1]; simp
    · rename_i hc
      have hle : 0 ≤ V4.cmp z.v e.v := by
        by_cases h : V4.cmp z.v e.v < 0
        · exact absurd (.inr (.inl h)) hc
        · omega
      rw [hme]
      by_cases he5 : e.op = 1
      · rw [if_pos he5]
        by_cases h1 : V4.cmp v e.v < 0
        · have := G.lt_le h1 (show V4.cmp e.v z.v ≤ 0 by omega)
          rw [decide_eq_true h1, decide_eq_true this, decide_eq_true (show V4.cmp v z.v ≤ 0 by omega)]; simp
        · rw [decide_eq_false h1]; simp
      · rw [if_neg he5]
        by_cases h1 : V4.cmp v e.v ≤ 0
        · by_cases hlt : 0 < V4.cmp z.v e.v
          · have := G.le_lt h1 (show V4.cmp e.v z.v < 0 by omega)
            rw [decide_eq_true h1, decide_eq_true this, decide_eq_true (show V4.cmp v z.v ≤ 0 by omega)]; simp
          · have hz5 : z.op ≠ 1 := fun h => hc (.inr (.inr ⟨by omega, hmin.1.2 h, by omega⟩))
            have := G.le_le h1 (show V4.cmp e.v z.v ≤ 0 by omega)
            rw [if_neg hz5, decide_eq_true h1, decide_eq_true this]; rfl
        · rw [decide_eq_false h1]; simp
/-! nothing is below every version that may be -/
theorem txt_zero48 : ∀ x : List UInt8, x.all Sem4.isDig = true → 0 ≤ txt x (List.replicate x.length 48)
  | [], _ => by decide
  | c :: x, h => by
    rw [List.all_cons, Bool.and_eq_true] at h
    have hd : 48 ≤ c.toNat ∧ c.toNat ≤ 57 := by simpa [Sem4.isDig] using h.1
    rw [List.length_cons, List.replicate_succ, txt_cons]
    have hn : ¬ c < 48 := by
      intro hlt
      have : c.toNat < 48 := hlt
      omega
    rw [if_neg hn]
    split
    · decide
    · exact txt_zero48 x h.2
theorem nothing_low {v : V4} (h : v.ok = true) : 0 ≤ V4.cmp v Bnd.nothing.v := by
  have hb := verOk_bounds h
  have hp : preOk v.p.data.toList = true := by
    have : verOk v.a v.b v.c v.p.data.toList = true := h
    unfold verOk at this
    simp only [Bool.and_eq_true] at this
    exact this.2
  have nn : ∀ {a b : Int}, 0 ≤ a → 0 ≤ b → 0 ≤ or2 a b := fun ha hb => by unfold or2; split <;> omega
  have no : ∀ {a : Int}, 0 ≤ a → 0 ≤ ord a 0 := fun h => by unfold ord; rw [if_neg (by omega)]; split <;> decide
  show 0 ≤ cmpV v.a v.b v.c v.p.data.toList 0 0 0 [48]
  unfold cmpV cmp3
  refine nn (nn (no (by omega)) (nn (no (by omega)) (no (by omega)))) ?_
  unfold cmpPre
  by_cases he : v.p.data.toList.isEmpty = true
  · rw [if_pos he]; decide
  · rw [if_neg he, show ([48] : List UInt8).isEmpty = false from rfl]
    simp only [Bool.false_eq_true, if_false]
    unfold preOk at hp
    have he' : v.p.data.toList.isEmpty = false := by rw [Bool.eq_false_iff]; exact he
    rw [he', Bool.false_or] at hp
    rw [show Sem4.dots [48] = [[48]] from rfl]
    cases hd : Sem4.dots v.p.data.toList with
    | nil => exact absurd hd (Sem4.dots_ne _)
    | cons x r =>
      rw [hd, List.all_cons, Bool.and_eq_true] at hp
      rw [lcmp]
      refine nn ?_ ?_
      · unfold partsCmp
        rw [show Sem4.digits [48] = true by decide]
        by_cases hx : Sem4.digits x = true
        · rw [if_pos hx]
          simp only [if_true]
          have hall : x.all Sem4.isDig = true := by unfold Sem4.digits at hx; simp only [Bool.and_eq_true] at hx; first | exact hx.1 | exact hx.2
          have hne : x ≠ [] := by
            intro e; rw [e] at hx; exact absurd hx (by decide)
          have := txt_zero48 x hall
          have e1 : pad ([48] : List UInt8).length x = x := by
            unfold pad
            have : 1 ≤ x.length := List.length_pos_iff.2 hne
            simp [Nat.sub_eq_zero_of_le this]
          have e2 : pad x.length [48] = List.replicate x.length 48 := by
            unfold pad
            have h1 : 1 ≤ x.length := List.length_pos_iff.2 hne
            rw [show ([48] : List UInt8) = List.replicate 1 48 from rfl, List.replicate_append_replicate, List.length_replicate, show x.length - 1 + 1 = x.length by omega]
          rw [e1, e2]; exact this
        · rw [if_neg hx]
          simp
      · cases r with
        | nil => decide
        | cons => show (0 : Int) ≤ 1; decide
theorem nothing_no {v : V4} (h : v.ok = true) : meets1 v Bnd.nothing = false := by
  have := nothing_low h
  unfold meets1
  rw [if_pos (show Bnd.nothing.op = 1 from rfl)]
  exact decide_eq_false (by omega)
theorem meets_fix {v : V4} (h : v.ok = true) (b : Bnd) : meets1 v b.fix = meets1 v b := by
  unfold Bnd.fix
  split
  · rfl
  · rename_i ho
    rw [nothing_no h]
    have : ¬ (1 ≤ b.op ∧ b.op ≤ 5) := by intro h; apply ho; unfold opOk; simp; omega
    unfold meets1
    rw [if_neg (by omega), if_neg (by omega), if_neg (by omega), if_neg (by omega), if_neg (by omega)]
theorem ends_meets {v : V4} (h : v.ok = true) (bs : List Bnd) : (mLo v (endsOf bs).lo && mHi v (endsOf bs).hi) = meetsR v bs := by
  have key : ∀ n (bs : List Bnd), bs.length = n → (mLo v (endsOf bs).lo && mHi v (endsOf bs).hi) = meetsR v bs := by
    intro n
    induction n with
    | zero => intro bs h; rw [List.eq_nil_of_length_eq_zero h]; rfl
    | succ n ih =>
      intro bs hl
      have hne : bs ≠ [] := by intro e; rw [e] at hl; cases hl
      obtain ⟨us, x, rfl⟩ : ∃ us x, bs = us ++ [x] := ⟨bs.dropLast, bs.getLast hne, (List.dropLast_concat_getLast hne).symm⟩
      have hu : us.length = n := by simp at hl; omega
      have h1 := ih us hu
      have hops := ends_ops us
      have hf := fix_bounds x
      rw [endsOf_snoc]
      show (mLo v (stepLo (endsOf us).lo x.fix) && mHi v (stepHi (endsOf us).hi x.fix)) = _
      have hm : meetsR v (us ++ [x]) = (meetsR v us && meets1 v x.fix) := by unfold meetsR; rw [List.all_append, meets_fix h]; simp
      rw [hm, ← h1]
      obtain ⟨z, hz⟩ : ∃ z, x.fix = z := ⟨_, rfl⟩
      rw [hz] at hf ⊢
      have hcase : z.op = 1 ∨ z.op = 2 ∨ z.op = 3 ∨ z.op = 4 ∨ z.op = 5 := by omega
      by_cases hlo : 3 ≤ z.op
      · rw [mLo_step v hops.1 hlo hf.2]
        by_cases hhi : z.op ≤ 3
        · rw [mHi_step v hops.2 hf.1 hhi]
          have h3 : z.op = 3 := by omega
          have : meets1 v z = (decide (0 ≤ V4.cmp v z.v) && decide (V4.cmp v z.v ≤ 0)) := by
            unfold meets1
            rw [if_neg (by omega), if_neg (by omega), if_pos h3]
            by_cases hc : V4.cmp v z.v = 0
            · rw [hc]; rfl
            · rw [decide_eq_false hc]
              by_cases h0 : 0 ≤ V4.cmp v z.v
              · rw [decide_eq_false (show ¬ V4.cmp v z.v ≤ 0 by omega)]; simp
              · rw [decide_eq_false h0]; rfl
          rw [this, if_neg (by omega), if_neg (by omega)]
          cases mLo v (endsOf us).lo <;> cases mHi v (endsOf us).hi <;> simp
        · have hk : stepHi (endsOf us).hi z = (endsOf us).hi := by unfold stepHi; rw [if_neg hhi]
          rw [hk]
          have : meets1 v z = if z.op = 5 then decide (0 < V4.cmp v z.v) else decide (0 ≤ V4.cmp v z.v) := by
            unfold meets1
            rw [if_neg (by omega), if_neg (by omega), if_neg (by omega)]
            by_cases h4 : z.op = 4
            · rw [if_pos h4, if_neg (by omega)]
            · rw [if_neg h4, if_pos (by omega), if_pos (by omega)]
          rw [this]
          cases mLo v (endsOf us).lo <;> cases mHi v (endsOf us).hi <;> simp
      · have hk : stepLo (endsOf us).lo z = (endsOf us).lo := by unfold stepLo; rw [if_neg hlo]
        rw [hk, mHi_step v hops.2 hf.1 (by omega)]
        have : meets1 v z = if z.op = 1 then decide (V4.cmp v z.v < 0) else decide (V4.cmp v z.v ≤ 0) := by
          unfold meets1
          by_cases h1 : z.op = 1
          · rw [if_pos h1, if_pos h1]
          · rw [if_neg h1, if_neg h1, if_pos (by omega)]
        rw [this]
        cases mLo v (endsOf us).lo <;> cases mHi v (endsOf us).hi <;> simp
  exact key _ bs rfl
theorem meets_one (v : V4) (b : Bnd) : meetsR v [b] = meets1 v b := by simp [meetsR]
theorem mLo_meets (v : V4) {e : Bnd} (h : e.op = 4 ∨ e.op = 5) : mLo v e = meets1 v e := by
  unfold mLo meets1
  rcases h with h | h
  · rw [if_neg (by omega), if_neg (by omega), if_neg (by omega), if_neg (by omega), if_neg (by omega), if_pos h]
  · rw [if_neg (by omega), if_pos h, if_neg (by omega), if_neg (by omega), if_neg (by omega), if_neg (by omega), if_pos h]
theorem mHi_meets (v : V4) {e : Bnd} (h : e.op = 1 ∨ e.op = 2) : mHi v e = meets1 v e := by
  unfold mHi meets1
  rcases h with h | h
  · rw [if_neg (by omega), if_pos h, if_pos h]
  · rw [if_neg (by omega), if_neg (by omega), if_neg (by omega), if_pos h]
theorem normalE_meets {v : V4} (h : v.ok = true) {x : TwoEnds} (hl : x.lo.op = 0 ∨ x.lo.op = 4 ∨ x.lo.op = 5) (hh : x.hi.op = 0 ∨ x.hi.op = 1 ∨ x.hi.op = 2) : meetsR v (normalE x) = (mLo v x.lo && mHi v x.hi) := by
  have G := good_v4
  unfold normalE
  have t1 : x.lo.op = 0 → mLo v x.lo = true := fun h => by unfold mLo; rw [if_pos h]
  have t2 : x.hi.op = 0 → mHi v x.hi = true := fun h => by unfold mHi; rw [if_pos h]
  by_cases l0 : x.lo.op = 0
  · rw [if_pos l0, t1 l0, Bool.true_and]
    by_cases h0 : x.hi.op = 0
    · rw [if_pos h0, t2 h0]; rfl
    · rw [if_neg h0, meets_one, mHi_meets v (by omega)]
  rw [if_neg l0]
  by_cases h0 : x.hi.op = 0
  · rw [if_pos h0, t2 h0, Bool.and_true, meets_one, mLo_meets v (by omega)]
  rw [if_neg h0]
  have e1 := G.1 v x.lo.v
  have e2 := G.1 v x.hi.v
  have e3 := G.1 x.lo.v x.hi.v
  split
  · rename_i hc
    obtain ⟨c0, c4, c2⟩ := hc
    rw [meets_one]
    unfold mLo mHi
    rw [if_neg l0, if_neg h0, if_neg (by omega), if_neg (by omega)]
    have : meets1 v ⟨3, x.lo.v⟩ = decide (V4.cmp v x.lo.v = 0) := by
      unfold meets1; rw [if_neg (by show ¬ (3 : Int) = 1; decide), if_neg (by show ¬ (3 : Int) = 2; decide), if_pos rfl]
    rw [this]
    have k1 : V4.cmp v x.lo.v ≤ 0 → V4.cmp v x.hi.v ≤ 0 := fun h => G.le_le h (by omega)
    have k2 : V4.cmp v x.hi.v ≤ 0 → V4.cmp v x.lo.v ≤ 0 := fun h => G.le_le h (show V4.cmp x.hi.v x.lo.v ≤ 0 by omega)
    by_cases hz : V4.cmp v x.lo.v = 0
    · rw [decide_eq_true hz, decide_eq_true (show 0 ≤ V4.cmp v x.lo.v by omega), decide_eq_true (k1 (by omega))]; rfl
    · rw [decide_eq_false hz]
      by_cases hp : 0 ≤ V4.cmp v x.lo.v
      · rw [decide_eq_false (show ¬ V4.cmp v x.hi.v ≤ 0 from fun h => by have := k2 h; omega)]; simp
      · rw [decide_eq_false hp]; rfl
  · rename_i hc
    split
    · rename_i hge
      rw [meets_one, nothing_no h]
      symm
      rw [Bool.and_eq_false_iff]
      unfold mLo mHi
      rw [if_neg l0, if_neg h0]
      have key : 0 ≤ V4.cmp v x.lo.v → V4.cmp v x.hi.v ≤ 0 → (V4.cmp x.lo.v x.hi.v = 0 ∧ V4.cmp v x.lo.v = 0 ∧ V4.cmp v x.hi.v = 0) := by
        intro a1 a2
        have b1 := G.ge_ge a1 hge
        have b2 : V4.cmp v x.hi.v = 0 := by omega
        have b3 : V4.cmp x.lo.v x.hi.v = 0 := by
          by_cases hp : 0 < V4.cmp x.lo.v x.hi.v
          · have := G.ge_gt a1 hp; omega
          · omega
        have b4 : V4.cmp v x.lo.v ≤ 0 := G.le_le (b := x.hi.v) (by omega) (by omega)
        exact ⟨b3, by omega, b2⟩
      by_cases l5 : x.lo.op = 5
      · rw [if_pos l5]
        by_cases h1 : 0 < V4.cmp v x.lo.v
        · right
          split
          · refine decide_eq_false (fun h => ?_); have := key (by omega) (by omega); omega
          · refine decide_eq_false (fun h => ?_); have := key (by omega) (by omega); omega
        · left; exact decide_eq_false h1
      · rw [if_neg l5]
        by_cases h1 : 0 ≤ V4.cmp v x.lo.v
        · right
          by_cases hh1 : x.hi.op = 1
          · rw [if_pos hh1]; refine decide_eq_false (fun h => ?_); have := key h1 (by omega); omega
          · rw [if_neg hh1]
            refine decide_eq_false (fun h => ?_)
            have := key h1 h
            exact hc ⟨this.1, by omega, by omega⟩
        · left; exact decide_eq_false h1
    · have e : meetsR v [x.lo, x.hi] = (meets1 v x.lo && meets1 v x.hi) := by simp [meetsR]
      rw [e, mLo_meets v (by omega), mHi_meets v (by omega)]
theorem normal_meets {v : V4} (h : v.ok = true) (all : List (List Bnd)) : meetsR v (normalR all) = meetsR v all.flatten := by
  unfold normalR
  have := ends_ops all.flatten
  rw [normalE_meets h this.1 this.2, ends_meets h]
theorem both_meets {v : V4} (h : v.ok = true) (a b : List Bnd) : meetsR v (normalR [a, b]) = (meetsR v a && meetsR v b) := by
  rw [normal_meets h]
  unfold meetsR
  rw [List.flatten_cons, List.flatten_cons, List.flatten_nil, List.append_nil, List.all_append]
end Go
