/- Explain: the newest of what is left, again and again, gives the order: plain. -/
import Derived.Test.YtbgimpeklblcjaaGreatDoorExTells
namespace Go
open Go.RowKit
def rankF {α : Type} (p : α → Bool) : List α → Nat → Nat
 | [], _ => 0
 | _ :: _, 0 => 0
 | a :: l, i + 1 => (if p a = true then 1 else 0) + rankF p l i
theorem rankF_get {α : Type} (p : α → Bool) : ∀ (l : List α) (i : Nat) (x : α), l[i]? = some x → p x = true → (l.filter p)[rankF p l i]? = some x
 | [], i, x, h, _ => by simp at h
 | a :: l, 0, x, h, hp => by
  obtain rfl : a = x := by simpa using h
  rw [List.filter_cons_of_pos hp]; rfl
 | a :: l, i + 1, x, h, hp => by
  rw [List.getElem?_cons_succ] at h
  have ih := rankF_get p l i x h hp
  unfold rankF
  by_cases ha : p a = true
  ·rw [if_pos ha, List.filter_cons_of_pos ha, Nat.add_comm, List.getElem?_cons_succ]; exact ih
  ·rw [if_neg ha, List.filter_cons_of_neg ha, Nat.zero_add]; exact ih
theorem rankF_lt {α : Type} (p : α → Bool) : ∀ (l : List α) (i j : Nat) (x y : α), i < j → l[i]? = some x → p x = true → l[j]? = some y → rankF p l i < rankF p l j
 | [], i, j, x, y, _, h, _, _ => by simp at h
 | a :: l, i, 0, x, y, h, _, _, _ => absurd h (Nat.not_lt_zero _)
 | a :: l, 0, j + 1, x, y, _, h, hp, _ => by
  obtain rfl : a = x := by simpa using h
  unfold rankF
  rw [if_pos hp]; omega
 | a :: l, i + 1, j + 1, x, y, hij, h, hp, hy => by
  rw [List.getElem?_cons_succ] at h hy
  have ih := rankF_lt p l i j x y (by omega) h hp hy
  unfold rankF
  omega
theorem rankF_onto {α : Type} (p : α → Bool) : ∀ (l : List α) (k : Nat) (y : α), (l.filter p)[k]? = some y → ∃ i, l[i]? = some y ∧ p y = true ∧ rankF p l i = k
 | [], k, y, h => by simp at h
 | a :: l, k, y, h => by
  by_cases ha : p a = true
  ·rw [List.filter_cons_of_pos ha] at h
   cases k with
   | zero =>
    obtain rfl : a = y := by simpa using h
    exact ⟨0, rfl, ha, rfl⟩
   | succ k =>
    rw [List.getElem?_cons_succ] at h
    obtain ⟨i, h1, h2, h3⟩ := rankF_onto p l k y h
    refine ⟨i + 1, h1, h2, ?_⟩
    unfold rankF
    rw [if_pos ha, h3, Nat.add_comm]
  ·rw [List.filter_cons_of_neg ha] at h
   obtain ⟨i, h1, h2, h3⟩ := rankF_onto p l k y h
   refine ⟨i + 1, h1, h2, ?_⟩
   unfold rankF
   rw [if_neg ha, h3, Nat.zero_add]
/-- i is an offer that may be, and not one of those told -/
def CandD (os : List DOff) (L : List (DOff × Nat)) (y : DOff × Nat) : Prop := os[y.2]? = some y.1 ∧ y.1.v.ok = true ∧ y ∉ L
/-- those told so far: in order, ahead of all others -/
def PickIs (os : List DOff) (L : List (DOff × Nat)) : Prop :=
 (∀ x ∈ L, os[x.2]? = some x.1 ∧ x.1.v.ok = true) ∧ L.Pairwise (Stab.lt cmpD) ∧ ∀ x ∈ L, ∀ y, CandD os L y → Stab.lt cmpD x y
theorem PickIs.nil (os : List DOff) : PickIs os [] := ⟨(fun x hx => by cases hx), List.Pairwise.nil, (fun x hx => by cases hx)⟩
theorem PickIs.snoc {os : List DOff} {L : List (DOff × Nat)} (h : PickIs os L) {b : DOff × Nat} (hb : CandD os L b) (hbest : ∀ y, CandD os L y → y = b ∨ Stab.lt cmpD b y) : PickIs os (L ++ [b]) := by
 obtain ⟨h1, h2, h3⟩ := h
 have hsub : ∀ y, CandD os (L ++ [b]) y → CandD os L y ∧ y ≠ b := fun y hy =>
  ⟨⟨hy.1, hy.2.1, fun hm => hy.2.2 (List.mem_append_left _ hm)⟩, fun e => hy.2.2 (List.mem_append_right _ (by rw [e]; exact List.mem_singleton.2 rfl))⟩
 refine ⟨fun x hx => ?_, List.pairwise_append.2 ⟨h2, List.pairwise_singleton _ _, fun x hx y hy => ?_⟩, fun x hx y hy => ?_⟩
 ·rcases List.mem_append.1 hx with hx | hx
  ·exact h1 x hx
  ·rw [List.mem_singleton.1 hx]; exact ⟨hb.1, hb.2.1⟩
 ·rw [List.mem_singleton.1 hy]; exact h3 x hx b hb
 ·obtain ⟨hc, hne⟩ := hsub y hy
  rcases List.mem_append.1 hx with hx | hx
  ·exact h3 x hx y hc
  ·rw [List.mem_singleton.1 hx]
   exact (hbest y hc).resolve_left hne
theorem PickIs.nodup {os : List DOff} {L : List (DOff × Nat)} (h : PickIs os L) : (L.map Prod.snd).Nodup := by
 refine List.pairwise_map.2 (List.Pairwise.imp_of_mem ?_ h.2.1)
 intro x y hx hy hlt e
 have e1 := (h.1 x hx).1
 have e2 := (h.1 y hy).1
 rw [e, e2] at e1
 have e3 : x = y := Prod.ext (Option.some.inj e1).symm e
 rw [e3] at hlt
 exact Stab.lt_irrefl good_cmpD _ hlt
/-- as many as there are: none is left -/
theorem PickIs.full {os : List DOff} {L : List (DOff × Nat)} (h : PickIs os L) (hl : L.length = os.length) : ∀ y, ¬ CandD os L y := by
 intro y hy
 have hn := h.nodup
 have hlt : ∀ i ∈ L.map Prod.snd, i < os.length := fun i hi => by
  obtain ⟨x, hx, rfl⟩ := List.mem_map.1 hi
  exact (List.getElem?_eq_some_iff.1 (h.1 x hx).1).1
 have hy2 : y.2 ∉ L.map Prod.snd := fun hm => by
  obtain ⟨x, hx, e⟩ := List.mem_map.1 hm
  have e1 := (h.1 x hx).1
  rw [e, hy.1] at e1
  exact hy.2.2 (by rw [show y = x from Prod.ext (Option.some.inj e1) e.symm]; exact hx)
 have hl2 : (y.2 :: L.map Prod.snd).Nodup := List.nodup_cons.2 ⟨hy2, hn⟩
 have hs : ∀ i ∈ y.2 :: L.map Prod.snd, i ∈ List.range os.length := fun i hi => by
  rcases List.mem_cons.1 hi with rfl | hi
  ·exact List.mem_range.2 (List.getElem?_eq_some_iff.1 hy.1).1
  ·exact List.mem_range.2 (hlt i hi)
 have := List.Nodup.length_le_of_subset hl2 hs
 rw [List.length_range, List.length_cons, List.length_map] at this
 omega
theorem PickIs.out {os : List DOff} {L : List (DOff × Nat)} (h : PickIs os L) (hf : ∀ y, ¬ CandD os L y) : OutD (okO os) (L.map Prod.fst) := by
 unfold okO
 refine ⟨L.map fun x => (x.1, rankF (fun o : DOff => o.v.ok) os x.2), by rw [List.map_map]; rfl, ?_, fun z => ⟨fun hz => ?_, fun ⟨i, hi, hz⟩ => ?_⟩⟩
 ·refine List.pairwise_map.2 (List.Pairwise.imp_of_mem ?_ h.2.1)
  intro x y hx hy hlt
  rcases hlt with h1 | ⟨h1, h2⟩
  ·exact .inl h1
  ·exact .inr ⟨h1, rankF_lt _ os _ _ _ _ h2 (h.1 x hx).1 (h.1 x hx).2 (h.1 y hy).1⟩
 ·obtain ⟨x, hx, rfl⟩ := List.mem_map.1 hz
  obtain ⟨e1, e2⟩ := List.getElem?_eq_some_iff.1 (rankF_get (fun o : DOff => o.v.ok) os _ _ (h.1 x hx).1 (h.1 x hx).2)
  exact ⟨_, e1, Prod.ext e2.symm rfl⟩
 ·obtain ⟨y, hy⟩ : ∃ y, (os.filter fun o => o.v.ok)[i] = y := ⟨_, rfl⟩
  have hy2 : (os.filter fun o => o.v.ok)[i]? = some y := by rw [List.getElem?_eq_getElem hi, hy]
  obtain ⟨i', h1, h2, h3⟩ := rankF_onto (fun o : DOff => o.v.ok) os i y hy2
  have hm : (y, i') ∈ L := Classical.byContradiction fun hn => hf (y, i') ⟨h1, h2, hn⟩
  refine List.mem_map.2 ⟨(y, i'), hm, ?_⟩
  rw [hz, hy, ← h3]
/-- the best one among the first i -/
def BestD (os : List DOff) (L : List (DOff × Nat)) (i : Nat) (b : Int) : Prop :=
 (b = -1 ∧ ∀ y, CandD os L y → i ≤ y.2) ∨ ∃ k : Nat, b = (k : Int) ∧ k < i ∧ ∃ x, CandD os L (x, k) ∧ ∀ y, CandD os L y → y.2 < i → y = (x, k) ∨ Stab.lt cmpD (x, k) y
theorem BestD.zero (os : List DOff) (L : List (DOff × Nat)) : BestD os L 0 (-1) := .inl ⟨rfl, fun _ _ => Nat.zero_le _⟩
theorem cand_one {os : List DOff} {L : List (DOff × Nat)} {y : DOff × Nat} (h : CandD os L y) {x : DOff} (hx : os[y.2]? = some x) : y = (x, y.2) := by
 have := h.1
 rw [hx] at this
 exact Prod.ext (Option.some.inj this).symm rfl
/-- the one at i is none -/
theorem BestD.pass {os : List DOff} {L : List (DOff × Nat)} {i : Nat} {b : Int} (h : BestD os L i b) (hn : ∀ x, ¬ CandD os L (x, i)) : BestD os L (i + 1) b := by
 have hc : ∀ y, CandD os L y → y.2 ≠ i := fun y hy e => hn y.1 (by subst e; exact hy)
 rcases h with ⟨h1, h2⟩ | ⟨k, h1, h2, x, h3, h4⟩
 ·exact .inl ⟨h1, fun y hy => by have := h2 y hy; have := hc y hy; omega⟩
 ·exact .inr ⟨k, h1, by omega, x, h3, fun y hy hlt => h4 y hy (by have := hc y hy; omega)⟩
/-- the one at i is the first -/
theorem BestD.start {os : List DOff} {L : List (DOff × Nat)} {i : Nat} {b : Int} (h : BestD os L i b) (hb : b < 0) {x : DOff} (hx : CandD os L (x, i)) : BestD os L (i + 1) (i : Int) := by
 rcases h with ⟨h1, h2⟩ | ⟨k, h1, _⟩
 ·refine .inr ⟨i, rfl, by omega, x, hx, fun y hy hlt => .inl ?_⟩
  have h3 : y.2 = i := by have := h2 y hy; omega
  have := cand_one hy (x := x) (by rw [h3]; exact hx.1)
  rw [h3] at this; exact this
 ·omega
/-- the one at i is newer, or not -/
theorem BestD.next {os : List DOff} {L : List (DOff × Nat)} {i k : Nat} (h : BestD os L i (k : Int)) {x z : DOff} (hx : CandD os L (x, i)) (hz : os[k]? = some z) :
  (0 < V4.cmp x.v z.v → BestD os L (i + 1) (i : Int)) ∧ (¬ 0 < V4.cmp x.v z.v → BestD os L (i + 1) (k : Int)) := by
 rcases h with ⟨h1, h2⟩ | ⟨k', h1, h2, x', h3, h4⟩
 ·omega
 ·obtain rfl : k = k' := by omega
  obtain rfl : z = x' := by have := h3.1; rw [hz] at this; exact Option.some.inj this
  have hw : ∀ y, CandD os L y → y.2 < i + 1 → y.2 < i ∨ y = (x, i) := fun y hy hlt => by
   by_cases e : y.2 = i
   ·have := cand_one hy (x := x) (by rw [e]; exact hx.1)
    rw [e] at this; exact .inr this
   ·exact .inl (by omega)
  have hcf := good_v4.1 x.v z.v
  constructor
  ·intro hc
   have hlt : Stab.lt cmpD (x, i) (z, k) := .inl (by show V4.cmp z.v x.v < 0; omega)
   refine .inr ⟨i, rfl, by omega, x, hx, fun y hy hl => ?_⟩
   rcases hw y hy hl with h | h
   ·rcases h4 y hy h with rfl | h
    ·exact .inr hlt
    ·exact .inr (Stab.lt_trans good_cmpD hlt h)
   ·exact .inl h
  ·intro hc
   refine .inr ⟨k, rfl, by omega, z, h3, fun y hy hl => ?_⟩
   rcases hw y hy hl with h | h
   ·exact h4 y hy h
   ·refine .inr ?_
    subst h
    by_cases h0 : V4.cmp z.v x.v = 0
    ·have := good_v4.1 z.v x.v
     exact .inr ⟨by show V4.cmp x.v z.v = 0; omega, h2⟩
    ·exact .inl (by show V4.cmp x.v z.v < 0; omega)
theorem BestD.form {os : List DOff} {L : List (DOff × Nat)} {i : Nat} {c : Int} (h : BestD os L i c) : c = -1 ∨ ∃ b : Nat, c = (b : Int) ∧ b < i := by
 rcases h with ⟨h, _⟩ | ⟨k, h1, h2, _⟩
 ·exact .inl h
 ·exact .inr ⟨k, h1, h2⟩
/-- a round's end -/
theorem BestD.told {os : List DOff} {L : List (DOff × Nat)} {k : Nat} (h : BestD os L os.length (k : Int)) (hp : PickIs os L) {z : DOff} (hz : os[k]? = some z) : CandD os L (z, k) ∧ PickIs os (L ++ [(z, k)]) := by
 rcases h with ⟨h1, h2⟩ | ⟨k', h1, h2, x', h3, h4⟩
 ·omega
 ·obtain rfl : k = k' := by omega
  obtain rfl : z = x' := by have := h3.1; rw [hz] at this; exact Option.some.inj this
  exact ⟨h3, hp.snoc h3 fun y hy => h4 y hy (List.getElem?_eq_some_iff.1 hy.1).1⟩
theorem BestD.none {os : List DOff} {L : List (DOff × Nat)} {b : Int} (h : BestD os L os.length b) (hb : b < 0) : ∀ y, ¬ CandD os L y := by
 intro y hy
 rcases h with ⟨h1, h2⟩ | ⟨k', h1, _⟩
 ·have := h2 y hy
  have := (List.getElem?_eq_some_iff.1 hy.1).1
  omega
 ·omega
/-- which ones are told, as a row of Bools -/
def doneD (L : List (DOff × Nat)) (t : Nat) : Bool := decide (t ∈ L.map Prod.snd)
theorem done_cand {os : List DOff} {L : List (DOff × Nat)} (hp : PickIs os L) {i : Nat} {x : DOff} (hx : os[i]? = some x) (ho : x.v.ok = true) : doneD L i = false ↔ CandD os L (x, i) := by
 unfold doneD
 rw [decide_eq_false_iff_not]
 constructor
 ·exact fun h => ⟨hx, ho, fun hm => h (List.mem_map.2 ⟨_, hm, rfl⟩)⟩
 ·rintro h hm
  obtain ⟨y, hy, e⟩ := List.mem_map.1 hm
  have e1 := (hp.1 y hy).1
  have e0 : y.2 = i := e
  rw [e0, hx] at e1
  exact h.2.2 (by rw [show (x, i) = y from Prod.ext (Option.some.inj e1) e0.symm]; exact hy)
theorem done_not {os : List DOff} {L : List (DOff × Nat)} {i : Nat} (h : doneD L i = true) (hp : PickIs os L) (x : DOff) : ¬ CandD os L (x, i) := fun hc => by
 have := (done_cand hp hc.1 hc.2.1).2 hc
 rw [h] at this; cases this
theorem done_snoc (L : List (DOff × Nat)) (z : DOff) (k t : Nat) : doneD (L ++ [(z, k)]) t = if t = k then true else doneD L t := by
 unfold doneD
 by_cases h : t = k
 ·rw [if_pos h]; simp [h]
 ·rw [if_neg h]; simp [h]
end Go
