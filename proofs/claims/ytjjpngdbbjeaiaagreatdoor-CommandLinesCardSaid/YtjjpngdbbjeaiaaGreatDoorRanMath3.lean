/- A range's text, piece by piece, in plain Lean. -/
import Derived.Test.YtjjpngdbbjeaiaaGreatDoorRanMath2
namespace Go
open Go.RowKit
/-- the first pieces read as these bounds -/
def BoundsAre : List (List UInt8) → List Bnd → Prop
  | [], [] => True
  | p :: ps, b :: bs => b.ok = true ∧ b.show = p ∧ BoundsAre ps bs
  | _, _ => False
theorem BoundsAre.len : ∀ {ps bs}, BoundsAre ps bs → ps.length = bs.length
  | [], [], _ => rfl
  | [], _ :: _, h => h.elim
  | _ :: _, [], h => h.elim
  | _ :: _, _ :: _, h => by simp [BoundsAre.len h.2.2]
theorem BoundsAre.iff : ∀ {ps bs}, BoundsAre ps bs ↔ ps = bs.map Bnd.show ∧ ∀ b ∈ bs, b.ok = true
  | [], [] => by simp [BoundsAre]
  | [], _ :: _ => by simp [BoundsAre]
  | _ :: _, [] => by simp [BoundsAre]
  | p :: ps, b :: bs => by
    simp only [BoundsAre, BoundsAre.iff (ps := ps) (bs := bs), List.map_cons, List.cons.injEq, List.mem_cons, forall_eq_or_imp]
    constructor
    · rintro ⟨h1, h2, h3, h4⟩; exact ⟨⟨h2.symm, h3⟩, h1, h4⟩
    · rintro ⟨⟨h2, h3⟩, h1, h4⟩; exact ⟨h1, h2.symm, h3, h4⟩
theorem BoundsAre.snoc {ps : List (List UInt8)} {bs : List Bnd} {p : List UInt8} {b : Bnd} (h : BoundsAre ps bs) (hb : b.ok = true) (hs : b.show = p) : BoundsAre (ps ++ [p]) (bs ++ [b]) := by
  rw [BoundsAre.iff] at h ⊢
  refine ⟨by rw [h.1, List.map_append, ← hs]; rfl, fun x hx => ?_⟩
  rcases List.mem_append.1 hx with h1 | h1
  · exact h.2 x h1
  · simp at h1; subst h1; exact hb
/-- not '*', not '^': what else a range may be -/
theorem range_else {l : List UInt8} {bs : List Bnd} (h1 : l ≠ [42]) (h2 : l.head? ≠ some 94) (h : RangeIs l bs) : bs ≠ [] ∧ bs.length ≤ 20 ∧ BoundsAre (sepAt 32 l) bs ∧ showB bs = l := by
  rcases h with ⟨g1, _⟩ | ⟨r, v, g1, _, _⟩ | ⟨g1, g2, g3⟩
  · exact absurd g1 h1
  · rw [g1] at h2; exact absurd rfl h2
  · have ha := rangeOk_all g2
    refine ⟨g1, ha.1, ?_, g3⟩
    rw [BoundsAre.iff, ← g3]
    exact ⟨showB_sep g1 ha.2, ha.2⟩
theorem range_yes {l : List UInt8} {bs : List Bnd} (h : BoundsAre (sepAt 32 l) bs) (hn : bs.length ≤ 20) : RangeIs l bs := by
  have hl := h.len
  rw [BoundsAre.iff] at h
  refine .inr (.inr ⟨?_, ?_, ?_⟩)
  · intro e; rw [e] at hl; exact sepAt_ne 32 l (List.eq_nil_of_length_eq_zero hl)
  · unfold rangeOk
    rw [decide_eq_true hn, List.all_eq_true.2 h.2]; rfl
  · unfold showB; rw [← h.1, joinAt_sep]
theorem range_no {l : List UInt8} (h1 : l ≠ [42]) (h2 : l.head? ≠ some 94) (k : Nat) (hk : k < (sepAt 32 l).length) (h : (20 ≤ k) ∨ ∀ b : Bnd, b.ok = true → b.show ≠ (sepAt 32 l)[k]) : RParseIs l [] 50 := by
  refine .inr ⟨rfl, rfl, fun bs hb => ?_⟩
  obtain ⟨g1, g2, g3, g4⟩ := range_else h1 h2 hb
  have hl := g3.len
  rcases h with h | h
  · omega
  · rw [BoundsAre.iff] at g3
    have hkb : k < bs.length := by omega
    refine h bs[k] (g3.2 _ (List.getElem_mem hkb)) ?_
    have : (sepAt 32 l)[k]? = (bs.map Bnd.show)[k]? := by rw [← g3.1]
    rw [List.getElem?_eq_getElem hk, List.getElem?_map, List.getElem?_eq_getElem hkb] at this
    simpa using this.symm
theorem joinAt_len (c : UInt8) (N : Nat) : ∀ ls : List (List UInt8), (∀ p ∈ ls, p.length ≤ N) → (joinAt c ls).length ≤ ls.length * (N + 1)
  | [], _ => by simp [joinAt]
  | [p], h => by
    have := h p (by simp)
    rw [joinAt]; simp; omega
  | p :: q :: r, h => by
    have h1 := h p (by simp)
    have h2 := joinAt_len c N (q :: r) (fun x hx => h x (by simp at hx ⊢; right; exact hx))
    rw [joinAt, List.length_append, List.length_cons, List.length_cons, Nat.add_mul, Nat.one_mul]
    omega
theorem signL_len (op : Int) : (signL op).length ≤ 2 := by
  unfold signL
  split
  · decide
  · split
    · decide
    · split
      · decide
      · split
        · decide
        · split <;> decide
theorem show_len {b : Bnd} (h : b.ok = true) : b.show.length ≤ 60 := by
  unfold Bnd.ok at h
  rw [Bool.and_eq_true] at h
  have hb := verOk_bounds h.2
  have h1 := dig10_size b.v.a.toNat (by omega)
  have h2 := dig10_size b.v.b.toNat (by omega)
  have h3 := dig10_size b.v.c.toNat (by omega)
  have h4 := signL_len b.op
  unfold Bnd.show V4.show showL showCore
  split
  · simp only [List.length_append, List.length_cons, List.length_nil]; omega
  · simp only [List.length_append, List.length_cons, List.length_nil]; omega
theorem range_len {l : List UInt8} {bs : List Bnd} (h1 : l ≠ [42]) (h2 : l.head? ≠ some 94) (h : RangeIs l bs) : l.length ≤ 2000 := by
  obtain ⟨g1, g2, g3, g4⟩ := range_else h1 h2 h
  rw [BoundsAre.iff] at g3
  rw [← g4]
  unfold showB
  have := joinAt_len 32 60 (bs.map Bnd.show) (fun p hp => by
    rw [List.mem_map] at hp
    obtain ⟨b, hb, rfl⟩ := hp
    exact show_len (g3.2 b hb))
  rw [List.length_map] at this
  omega
/-- what reading a range comes to -/
def RParseAs (l : List UInt8) (w : World) (e : Ending) (w' : World) : Prop :=
  ∃ (x : Value) (bs : List Bnd) (er : Int), e = .returned (.tuple #[x, .int .i64 er]) ∧ Bnds w' x bs ∧ (∃ a cap, x = .slice a bs.length cap) ∧ RParseIs l bs er ∧ Below w.heap.size w w' ∧ FreshV w.heap.size x
theorem bnds_nil (w : World) : Bnds w (.slice none 0 0) [] := ⟨rfl, Nat.zero_le _, .inl ⟨_, _, rfl, rfl, by simp⟩⟩
theorem rparse_err {l : List UInt8} {w w' : World} (h : RParseIs l [] 50) (hb : Below w.heap.size w w') : RParseAs l w (.returned (.tuple #[.slice none 0 0, .int .i64 50])) w' :=
  ⟨_, [], 50, rfl, bnds_nil _, ⟨none, 0, rfl⟩, h, hb, FreshV.nil _ _ _⟩
theorem rparse_star {l : List UInt8} {w w' : World} (h : l = [42]) (hb : Below w.heap.size w w') : RParseAs l w (.returned (.tuple #[.slice none 0 0, .int .i64 0])) w' :=
  ⟨_, [], 0, rfl, bnds_nil _, ⟨none, 0, rfl⟩, .inl ⟨rfl, .inl ⟨h, rfl⟩⟩, hb, FreshV.nil _ _ _⟩
theorem rparse_near {l r : List UInt8} {v : V4} (h : l = 94 :: r) (hv : v.IsShow r) : RParseIs l (near v) 0 := .inl ⟨rfl, .inr (.inl ⟨r, v, h, hv, rfl⟩)⟩
theorem rparse_nonear {l r : List UInt8} (h : l = 94 :: r) (hv : ∀ a b c p, ¬ IsShow a b c p r) : RParseIs l [] 50 := by
  refine .inr ⟨rfl, rfl, fun bs hb => ?_⟩
  rcases hb with ⟨g1, _⟩ | ⟨r', v, g1, g2, _⟩ | ⟨g1, g2, g3⟩
  · rw [h] at g1; simp at g1
  · rw [h] at g1; simp at g1; subst g1
    exact hv _ _ _ _ ⟨g2.1, g2.2⟩
  · obtain ⟨x, t, e, hx⟩ := showB_head g1 (rangeOk_all g2).2
    rw [g3, h] at e; simp at e; rw [← e.1] at hx; exact absurd hx (by decide)
theorem rparse_long {l : List UInt8} (h1 : l ≠ [42]) (h2 : l.head? ≠ some 94) (h : 2000 < l.length) : RParseIs l [] 50 := .inr ⟨rfl, rfl, fun bs hb => by have := range_len h1 h2 hb; omega⟩
end Go
