/- The least form of a least form is it. -/
import Derived.Test.YthojbknakmjndaaGreatDoorRanMath6
namespace Go
open Go.RowKit
theorem ok_parts {b : Bnd} (h : b.ok = true) : 1 ≤ b.op ∧ b.op ≤ 5 ∧ b.v.ok = true := by
  unfold Bnd.ok opOk at h
  simp at h
  exact ⟨h.1.1, h.1.2, h.2⟩
theorem fix_op {b : Bnd} (h1 : 1 ≤ b.op) (h2 : b.op ≤ 5) : b.fix = b := by
  unfold Bnd.fix
  rw [if_pos]
  unfold opOk
  simp; omega
theorem fix_id {b : Bnd} (h : b.ok = true) : b.fix = b := fix_op (ok_parts h).1 (ok_parts h).2.1
theorem mem_lows {bs : List Bnd} (h : ∀ b ∈ bs, b.ok = true) (z : Bnd) : z ∈ lows bs ↔ z ∈ bs ∧ 3 ≤ z.op := by
  unfold lows
  rw [List.mem_filter, List.mem_map]
  constructor
  · rintro ⟨⟨x, hx, rfl⟩, h2⟩
    rw [fix_id (h x hx)] at h2 ⊢
    exact ⟨hx, by simpa using h2⟩
  · rintro ⟨h1, h2⟩
    exact ⟨⟨z, h1, fix_id (h z h1)⟩, by simpa using h2⟩
theorem mem_highs {bs : List Bnd} (h : ∀ b ∈ bs, b.ok = true) (z : Bnd) : z ∈ highs bs ↔ z ∈ bs ∧ z.op ≤ 3 := by
  unfold highs
  rw [List.mem_filter, List.mem_map]
  constructor
  · rintro ⟨⟨x, hx, rfl⟩, h2⟩
    rw [fix_id (h x hx)] at h2 ⊢
    exact ⟨hx, by simpa using h2⟩
  · rintro ⟨h1, h2⟩
    exact ⟨⟨z, h1, fix_id (h z h1)⟩, by simpa using h2⟩
theorem two_eq {x y : TwoEnds} (h1 : x.lo = y.lo) (h2 : x.hi = y.hi) : x = y := by
  obtain ⟨a, b⟩ := x
  obtain ⟨c, d⟩ := y
  simp only at h1 h2
  rw [h1, h2]
theorem ends_uniq {xs ys : List Bnd} (hx : ∀ b ∈ xs, b.ok = true) (hs : ∀ z, z ∈ xs ↔ z ∈ ys) : endsOf xs = endsOf ys := by
  have hy : ∀ b ∈ ys, b.ok = true := fun b hb => hx b ((hs b).2 hb)
  have h1 := ends_is xs
  have h2 := ends_is ys
  refine two_eq (IsLo.uniq (fun z hz => ?_) (fun z => ?_) h1.1 h2.1) (IsHi.uniq (fun z hz => ?_) (fun z => ?_) h1.2.1 h2.2.1)
  · exact (ok_parts (hx z ((mem_lows hx z).1 hz).1)).2.2
  · rw [mem_lows hx, mem_lows hy, hs]
  · exact (ok_parts (hx z ((mem_highs hx z).1 hz).1)).2.2
  · rw [mem_highs hx, mem_highs hy, hs]
theorem normal_turn {a b : List Bnd} (ha : ∀ x ∈ a, x.ok = true) (hb : ∀ x ∈ b, x.ok = true) : normalR [b, a] = normalR [a, b] := by
  unfold normalR
  congr 1
  refine ends_uniq (fun x hx => ?_) (fun z => ?_)
  · simp at hx; rcases hx with h | h
    · exact hb x h
    · exact ha x h
  · simp; exact or_comm
/-- what the least form is -/
inductive NormIs (x : TwoEnds) : List Bnd → Prop
  | none (h1 : x.lo.op = 0) (h2 : x.hi.op = 0) : NormIs x []
  | hi (h1 : x.lo.op = 0) (h2 : x.hi.op = 1 ∨ x.hi.op = 2) : NormIs x [x.hi]
  | lo (h1 : x.lo.op = 4 ∨ x.lo.op = 5) (h2 : x.hi.op = 0) : NormIs x [x.lo]
  | just (h1 : x.lo.op = 4) (h2 : x.hi.op = 2) (h3 : V4.cmp x.lo.v x.hi.v = 0) : NormIs x [⟨3, x.lo.v⟩]
  | no (h1 : x.lo.op = 4 ∨ x.lo.op = 5) (h2 : x.hi.op = 1 ∨ x.hi.op = 2) : NormIs x [Bnd.nothing]
  | two (h1 : x.lo.op = 4 ∨ x.lo.op = 5) (h2 : x.hi.op = 1 ∨ x.hi.op = 2) (h3 : V4.cmp x.lo.v x.hi.v < 0) : NormIs x [x.lo, x.hi]
theorem norm_is {x : TwoEnds} (hl : x.lo.op = 0 ∨ x.lo.op = 4 ∨ x.lo.op = 5) (hh : x.hi.op = 0 ∨ x.hi.op = 1 ∨ x.hi.op = 2) : NormIs x (normalE x) := by
  unfold normalE
  by_cases l0 : x.lo.op = 0
  · rw [if_pos l0]
    by_cases h0 : x.hi.op = 0
    · rw [if_pos h0]; exact .none l0 h0
    · rw [if_neg h0]; exact .hi l0 (by omega)
  rw [if_neg l0]
  by_cases h0 : x.hi.op = 0
  · rw [if_pos h0]; exact .lo (by omega) h0
  rw [if_neg h0]
  split
  · rename_i hc; exact .just hc.2.1 hc.2.2 hc.1
  · split
    · exact .no (by omega) (by omega)
    · exact .two (by omega) (by omega) (by omega)
theorem stepLo_zero {b : Bnd} (h : b.op = 4 ∨ b.op = 5) : stepLo Bnd.zero b = b := by
  unfold stepLo
  rw [if_pos (by omega), if_pos (.inl rfl)]
  unfold maxOp
  obtain ⟨o, v⟩ := b
  simp only at h ⊢
  rcases h with rfl | rfl <;> rfl
theorem stepHi_zero {b : Bnd} (h : b.op = 1 ∨ b.op = 2) : stepHi Bnd.zero b = b := by
  unfold stepHi
  rw [if_pos (by omega), if_pos (.inl rfl)]
  unfold minOp
  obtain ⟨o, v⟩ := b
  simp only at h ⊢
  rcases h with rfl | rfl <;> rfl
theorem stepLo_skip {e b : Bnd} (h : b.op < 3) : stepLo e b = e := by unfold stepLo; rw [if_neg (by omega)]
theorem stepHi_skip {e b : Bnd} (h : 3 < b.op) : stepHi e b = e := by unfold stepHi; rw [if_neg (by omega)]
theorem ends_one {b : Bnd} (h1 : 1 ≤ b.op) (h2 : b.op ≤ 5) : endsOf [b] = ⟨stepLo Bnd.zero b, stepHi Bnd.zero b⟩ := by
  show TwoEnds.add TwoEnds.zero b = _
  unfold TwoEnds.add
  rw [fix_op h1 h2]; rfl
theorem ends_two {a b : Bnd} (h1 : 1 ≤ a.op) (h2 : a.op ≤ 5) (h3 : 1 ≤ b.op) (h4 : b.op ≤ 5) : endsOf [a, b] = ⟨stepLo (stepLo Bnd.zero a) b, stepHi (stepHi Bnd.zero a) b⟩ := by
  show TwoEnds.add (TwoEnds.add TwoEnds.zero a) b = _
  unfold TwoEnds.add
  rw [fix_op h1 h2, fix_op h3 h4]; rfl
theorem normalE_hi {h : Bnd} (hh : h.op = 1 ∨ h.op = 2) : normalE ⟨Bnd.zero, h⟩ = [h] := by
  unfold normalE
  rw [if_pos (show Bnd.zero.op = 0 from rfl), if_neg (by show ¬ h.op = 0; omega)]
theorem normalE_lo {l : Bnd} (hl : l.op = 4 ∨ l.op = 5) : normalE ⟨l, Bnd.zero⟩ = [l] := by
  unfold normalE
  rw [if_neg (by show ¬ l.op = 0; omega), if_pos (show Bnd.zero.op = 0 from rfl)]
theorem norm_again {x : TwoEnds} {n : List Bnd} (h : NormIs x n) (hx : normalE x = n) : normalE (endsOf n) = n := by
  cases h with
  | none h1 h2 => rfl
  | hi h1 h2 => rw [ends_one (by omega) (by omega), stepLo_skip (by omega), stepHi_zero h2, normalE_hi h2]
  | lo h1 h2 => rw [ends_one (by omega) (by omega), stepLo_zero h1, stepHi_skip (by omega), normalE_lo h1]
  | just h1 h2 h3 =>
    rw [ends_one (by show (1 : Int) ≤ 3; decide) (by show (3 : Int) ≤ 5; decide)]
    have e1 : stepLo Bnd.zero ⟨3, x.lo.v⟩ = ⟨4, x.lo.v⟩ := by unfold stepLo; rw [if_pos (by show (3 : Int) ≤ 3; decide), if_pos (.inl rfl)]; rfl
    have e2 : stepHi Bnd.zero ⟨3, x.lo.v⟩ = ⟨2, x.lo.v⟩ := by unfold stepHi; rw [if_pos (by show (3 : Int) ≤ 3; decide), if_pos (.inl rfl)]; rfl
    rw [e1, e2]
    unfold normalE
    rw [if_neg (by show ¬ (4 : Int) = 0; decide), if_neg (by show ¬ (2 : Int) = 0; decide), if_pos ⟨good_v4.self _, rfl, rfl⟩]
  | no h1 h2 =>
    rw [ends_one (by show (1 : Int) ≤ 1; decide) (by show (1 : Int) ≤ 5; decide), stepLo_skip (by show (1 : Int) < 3; decide), stepHi_zero (.inl rfl), normalE_hi (.inl rfl)]
  | two h1 h2 h3 =>
    rw [ends_two (by omega) (by omega) (by omega) (by omega), stepLo_zero h1, stepLo_skip (b := x.hi) (by omega), stepHi_skip (b := x.lo) (by omega), stepHi_zero h2]
    exact hx
theorem normal_again (all : List (List Bnd)) : normalR [normalR all] = normalR all := by
  have h := ends_ops all.flatten
  have := norm_again (norm_is h.1 h.2) rfl
  unfold normalR
  rw [List.flatten_cons, List.flatten_nil, List.append_nil]
  exact this
theorem lo_ok {bs : List Bnd} (h : ∀ b ∈ bs, b.ok = true) (ho : (endsOf bs).lo.op ≠ 0) : (endsOf bs).lo.v.ok = true ∧ lows bs ≠ [] := by
  rcases (ends_is bs).1 with ⟨_, h2⟩ | ⟨⟨z, hz, hze⟩, _⟩
  · rw [h2] at ho; exact absurd rfl ho
  · refine ⟨?_, fun e => by rw [e] at hz; cases hz⟩
    rw [← hze, toLo_ver]; exact (ok_parts (h z ((mem_lows h z).1 hz).1)).2.2
theorem hi_ok {bs : List Bnd} (h : ∀ b ∈ bs, b.ok = true) (ho : (endsOf bs).hi.op ≠ 0) : (endsOf bs).hi.v.ok = true ∧ highs bs ≠ [] := by
  rcases (ends_is bs).2.1 with ⟨_, h2⟩ | ⟨⟨z, hz, hze⟩, _⟩
  · rw [h2] at ho; exact absurd rfl ho
  · refine ⟨?_, fun e => by rw [e] at hz; cases hz⟩
    rw [← hze, toHi_ver]; exact (ok_parts (h z ((mem_highs h z).1 hz).1)).2.2
theorem op_ok {b : Bnd} (h1 : 1 ≤ b.op) (h2 : b.op ≤ 5) (h : b.v.ok = true) : b.ok = true := by
  unfold Bnd.ok opOk
  simp [h1, h2, h]
theorem norm_ok {bs : List Bnd} (h : ∀ b ∈ bs, b.ok = true) : ∀ b ∈ normalE (endsOf bs), b.ok = true := by
  have ho := ends_ops bs
  have hn := norm_is ho.1 ho.2
  have hl := lo_ok h
  have hh := hi_ok h
  obtain ⟨n, hne⟩ : ∃ n, normalE (endsOf bs) = n := ⟨_, rfl⟩
  rw [hne] at hn ⊢
  intro b hb
  cases hn with
  | none h1 h2 => cases hb
  | hi h1 h2 => simp at hb; subst hb; exact op_ok (by omega) (by omega) (hh (by omega)).1
  | lo h1 h2 => simp at hb; subst hb; exact op_ok (by omega) (by omega) (hl (by omega)).1
  | just h1 h2 h3 => simp at hb; subst hb; exact op_ok (by show (1 : Int) ≤ 3; decide) (by show (3 : Int) ≤ 5; decide) (hl (by omega)).1
  | no h1 h2 => simp at hb; subst hb; decide
  | two h1 h2 h3 =>
    simp at hb
    rcases hb with rfl | rfl
    · exact op_ok (by omega) (by omega) (hl (by omega)).1
    · exact op_ok (by omega) (by omega) (hh (by omega)).1
theorem isLo_more {n bs : List Bnd} {e : Bnd} (hn : ∀ b ∈ n, b.ok = true) (hb : ∀ b ∈ bs, b.ok = true) (h : IsLo (lows bs) e) (h1 : ∀ z ∈ lows n, toLo z = e) (h2 : lows bs = [] → lows n = []) : IsLo (lows (n ++ bs ++ n)) e := by
  have hall : ∀ b ∈ n ++ bs ++ n, b.ok = true := by
    intro b hb'
    simp at hb'
    rcases hb' with h | h | h
    · exact hn b h
    · exact hb b h
    · exact hn b h
  have hm : ∀ z, z ∈ lows (n ++ bs ++ n) ↔ z ∈ lows n ∨ z ∈ lows bs := by
    intro z
    rw [mem_lows hall, mem_lows hn, mem_lows hb]
    simp
    constructor
    · rintro ⟨h | h | h, h3⟩
      · exact .inl ⟨h, h3⟩
      · exact .inr ⟨h, h3⟩
      · exact .inl ⟨h, h3⟩
    · rintro (⟨h, h3⟩ | ⟨h, h3⟩)
      · exact ⟨.inl h, h3⟩
      · exact ⟨.inr (.inl h), h3⟩
  rcases h with ⟨g1, g2⟩ | ⟨⟨z, hz, hze⟩, g⟩
  · left
    refine ⟨?_, g2⟩
    rw [List.eq_nil_iff_forall_not_mem]
    intro z hz
    rcases (hm z).1 hz with h | h
    · rw [h2 g1] at h; cases h
    · rw [g1] at h; cases h
  · right
    refine ⟨⟨z, (hm z).2 (.inr hz), hze⟩, fun y hy => ?_⟩
    rcases (hm y).1 hy with h | h
    · rw [h1 y h]; exact leLo_refl _
    · exact g y h
theorem isHi_more {n bs : List Bnd} {e : Bnd} (hn : ∀ b ∈ n, b.ok = true) (hb : ∀ b ∈ bs, b.ok = true) (h : IsHi (highs bs) e) (h1 : ∀ z ∈ highs n, toHi z = e) (h2 : highs bs = [] → highs n = []) : IsHi (highs (n ++ bs ++ n)) e := by
  have hall : ∀ b ∈ n ++ bs ++ n, b.ok = true := by
    intro b hb'
    simp at hb'
    rcases hb' with h | h | h
    · exact hn b h
    · exact hb b h
    · exact hn b h
  have hm : ∀ z, z ∈ highs (n ++ bs ++ n) ↔ z ∈ highs n ∨ z ∈ highs bs := by
    intro z
    rw [mem_highs hall, mem_highs hn, mem_highs hb]
    simp
    constructor
    · rintro ⟨h | h | h, h3⟩
      · exact .inl ⟨h, h3⟩
      · exact .inr ⟨h, h3⟩
      · exact .inl ⟨h, h3⟩
    · rintro (⟨h, h3⟩ | ⟨h, h3⟩)
      · exact ⟨.inl h, h3⟩
      · exact ⟨.inr (.inl h), h3⟩
  rcases h with ⟨g1, g2⟩ | ⟨⟨z, hz, hze⟩, g⟩
  · left
    refine ⟨?_, g2⟩
    rw [List.eq_nil_iff_forall_not_mem]
    intro z hz
    rcases (hm z).1 hz with h | h
    · rw [h2 g1] at h; cases h
    · rw [g1] at h; cases h
  · right
    refine ⟨⟨z, (hm z).2 (.inr hz), hze⟩, fun y hy => ?_⟩
    rcases (hm y).1 hy with h | h
    · rw [h1 y h]; exact leHi_refl _
    · exact g y h
theorem toLo_self {b : Bnd} (h : b.op = 4 ∨ b.op = 5) : toLo b = b := by unfold toLo; rw [if_neg (by omega)]
theorem toHi_self {b : Bnd} (h : b.op = 1 ∨ b.op = 2) : toHi b = b := by unfold toHi; rw [if_neg (by omega)]
theorem lows_none {n : List Bnd} (hn : ∀ b ∈ n, b.ok = true) (h : ∀ z ∈ n, z.op < 3) : lows n = [] := by
  rw [List.eq_nil_iff_forall_not_mem]
  intro z hz
  have := (mem_lows hn z).1 hz
  have := h z this.1
  omega
theorem highs_none {n : List Bnd} (hn : ∀ b ∈ n, b.ok = true) (h : ∀ z ∈ n, 3 < z.op) : highs n = [] := by
  rw [List.eq_nil_iff_forall_not_mem]
  intro z hz
  have := (mem_highs hn z).1 hz
  have := h z this.1
  omega
theorem norm_more {bs : List Bnd} (h : ∀ b ∈ bs, b.ok = true) : normalE (endsOf (normalE (endsOf bs) ++ bs ++ normalE (endsOf bs))) = normalE (endsOf bs) := by
  have ho := ends_ops bs
  have hn := norm_is ho.1 ho.2
  have hl := lo_ok h
  have hh := hi_ok h
  have hno := norm_ok h
  have his := ends_is bs
  obtain ⟨n, hne⟩ : ∃ n, normalE (endsOf bs) = n := ⟨_, rfl⟩
  rw [hne] at hn hno ⊢
  have hall : ∀ b ∈ n ++ bs ++ n, b.ok = true := by
    intro b hb'
    simp at hb'
    rcases hb' with h' | h' | h'
    · exact hno b h'
    · exact h b h'
    · exact hno b h'
  have his2 := ends_is (n ++ bs ++ n)
  have kl : ∀ e, IsLo (lows (n ++ bs ++ n)) e → (endsOf (n ++ bs ++ n)).lo = e := fun e he => IsLo.uniq (fun z hz => (ok_parts (hall z ((mem_lows hall z).1 hz).1)).2.2) (fun _ => Iff.rfl) his2.1 he
  have kh : ∀ e, IsHi (highs (n ++ bs ++ n)) e → (endsOf (n ++ bs ++ n)).hi = e := fun e he => IsHi.uniq (fun z hz => (ok_parts (hall z ((mem_highs hall z).1 hz).1)).2.2) (fun _ => Iff.rfl) his2.2.1 he
  have same : IsLo (lows (n ++ bs ++ n)) (endsOf bs).lo → IsHi (highs (n ++ bs ++ n)) (endsOf bs).hi → normalE (endsOf (n ++ bs ++ n)) = n := by
    intro h1 h2
    rw [two_eq (kl _ h1) (kh _ h2)]
    exact hne
  cases hn with
  | none h1 h2 =>
    rw [List.nil_append, List.append_nil, hne]
  | hi h1 h2 =>
    refine same (isLo_more hno h his.1 (fun z hz => ?_) (fun _ => ?_)) (isHi_more hno h his.2.1 (fun z hz => ?_) (fun e => absurd e (hh (by omega)).2))
    · have := (mem_lows hno z).1 hz; simp at this; have e := this.1; subst e; omega
    · exact lows_none hno (fun z hz => by simp at hz; subst hz; omega)
    · have := (mem_highs hno z).1 hz; simp at this; have e := this.1; subst e; exact toHi_self h2
  | lo h1 h2 =>
    refine same (isLo_more hno h his.1 (fun z hz => ?_) (fun e => absurd e (hl (by omega)).2)) (isHi_more hno h his.2.1 (fun z hz => ?_) (fun _ => ?_))
    · have := (mem_lows hno z).1 hz; simp at this; have e := this.1; subst e; exact toLo_self h1
    · have := (mem_highs hno z).1 hz; simp at this; have e := this.1; subst e; omega
    · exact highs_none hno (fun z hz => by simp at hz; subst hz; omega)
  | just h1 h2 h3 =>
    have ev := v4_eq (hl (by omega)).1 (hh (by omega)).1 h3
    refine same (isLo_more hno h his.1 (fun z hz => ?_) (fun e => absurd e (hl (by omega)).2)) (isHi_more hno h his.2.1 (fun z hz => ?_) (fun e => absurd e (hh (by omega)).2))
    · have := (mem_lows hno z).1 hz; simp at this; have e := this.1; subst e
      show (⟨4, (endsOf bs).lo.v⟩ : Bnd) = _
      rw [← h1]
    · have := (mem_highs hno z).1 hz; simp at this; have e := this.1; subst e
      show (⟨2, (endsOf bs).lo.v⟩ : Bnd) = _
      rw [ev, ← h2]
  | no h1 h2 =>
    have hlow := isLo_more hno h his.1 (fun z hz => by
      have := (mem_lows hno z).1 hz; simp at this; have e := this.1; subst e; exact absurd this.2 (by show ¬ (3 : Int) ≤ 1; decide)) (fun _ => lows_none hno (fun z hz => by simp at hz; subst hz; show (1 : Int) < 3; decide))
    have hhi : IsHi (highs ([Bnd.nothing] ++ bs ++ [Bnd.nothing])) Bnd.nothing := by
      right
      refine ⟨⟨Bnd.nothing, (mem_highs hall _).2 ⟨by simp, by show (1 : Int) ≤ 3; decide⟩, rfl⟩, fun z hz => ?_⟩
      have hz2 := (mem_highs hall z).1 hz
      have hzo := ok_parts (hall z hz2.1)
      have hlow := nothing_low hzo.2.2
      unfold leHi
      rw [toHi_ver]
      by_cases h0 : 0 < V4.cmp z.v Bnd.nothing.v
      · exact .inl h0
      · right
        refine ⟨by omega, ?_⟩
        show (1 : Int) ≤ (toHi z).op
        unfold toHi
        split
        · show (1 : Int) ≤ 2; decide
        · exact hzo.1
    rw [two_eq (y := ⟨(endsOf bs).lo, Bnd.nothing⟩) (kl _ hlow) (kh _ hhi)]
    unfold normalE
    have hlo := (hl (by omega)).1
    rw [if_neg (by show ¬ (endsOf bs).lo.op = 0; omega), if_neg (by show ¬ (1 : Int) = 0; decide), if_neg (fun hc => absurd hc.2.2 (by show ¬ (1 : Int) = 2; decide)), if_pos (nothing_low hlo)]
  | two h1 h2 h3 =>
    refine same (isLo_more hno h his.1 (fun z hz => ?_) (fun e => absurd e (hl (by omega)).2)) (isHi_more hno h his.2.1 (fun z hz => ?_) (fun e => absurd e (hh (by omega)).2))
    · have := (mem_lows hno z).1 hz; simp at this
      rcases this.1 with e | e
      · subst e; exact toLo_self h1
      · subst e; omega
    · have := (mem_highs hno z).1 hz; simp at this
      rcases this.1 with e | e
      · subst e; omega
      · subst e; exact toHi_self h2
theorem normal_more {a b : List Bnd} (ha : ∀ x ∈ a, x.ok = true) (hb : ∀ x ∈ b, x.ok = true) : normalR [normalR [a, b], a, b, normalR [a, b]] = normalR [a, b] := by
  have h : ∀ x ∈ a ++ b, x.ok = true := by
    intro x hx
    rcases List.mem_append.1 hx with h | h
    · exact ha x h
    · exact hb x h
  have := norm_more h
  unfold normalR
  simp only [List.flatten_cons, List.flatten_nil, List.append_nil]
  rw [List.append_assoc, List.append_assoc] at this
  exact this
theorem normal_ok {a b : List Bnd} (ha : ∀ x ∈ a, x.ok = true) (hb : ∀ x ∈ b, x.ok = true) : rangeErr (normalR [a, b]) = 0 := by
  have h : ∀ x ∈ a ++ b, x.ok = true := by
    intro x hx
    rcases List.mem_append.1 hx with h | h
    · exact ha x h
    · exact hb x h
  have hn := norm_ok h
  have e : normalR [a, b] = normalE (endsOf (a ++ b)) := by
    unfold normalR
    simp only [List.flatten_cons, List.flatten_nil, List.append_nil]
  have ho := ends_ops (a ++ b)
  have hl : (normalE (endsOf (a ++ b))).length ≤ 2 := by
    have := norm_is ho.1 ho.2
    obtain ⟨n, hne⟩ : ∃ n, normalE (endsOf (a ++ b)) = n := ⟨_, rfl⟩
    rw [hne] at this ⊢
    cases this <;> simp
  unfold rangeErr rangeOk
  rw [e, List.all_eq_true.2 hn, decide_eq_true (by omega)]; rfl
end Go
