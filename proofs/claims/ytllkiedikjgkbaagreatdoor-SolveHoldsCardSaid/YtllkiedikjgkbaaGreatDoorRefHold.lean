/- What the reference of Holds looks at. -/
import Derived.Test.YtllkiedikjgkbaaGreatDoorBase
import Derived.Test.YtllkiedikjgkbaaGreatDoorSolPlains
namespace Go
open Go.RowKit
theorem apart_perm {l m : List Pik} (h : l.Perm m) (hm : m.Pairwise fun x y => x.name ≠ y.name) : l.Pairwise fun x y => x.name ≠ y.name :=
  (h.pairwise_iff (fun h => fun e => h e.symm)).2 hm
theorem apart_one {l : List Pik} (h : l.Pairwise fun x y => x.name ≠ y.name) {x y : Pik} (hx : x ∈ l) (hy : y ∈ l) (e : x.name = y.name) : x = y := by
  obtain ⟨i, hi, rfl⟩ := List.getElem_of_mem hx
  obtain ⟨j, hj, rfl⟩ := List.getElem_of_mem hy
  rcases Nat.lt_trichotomy i j with hij | hij | hij
  · exact absurd e (List.pairwise_iff_getElem.1 h i j hi hj hij)
  · subst hij; rfl
  · exact absurd e.symm (List.pairwise_iff_getElem.1 h j i hj hi hij)
/-! the program's look -/
/-! the reference's look -/
def hitB (nm : ByteArray) (v : V4) (x : Pik) : Bool := decide (x.name = nm) && V4.same x.v v
def hitsN (picks : List Pik) (nm : ByteArray) (v : V4) : Nat := (picks.filter (hitB nm v)).length
theorem hitB_iff {nm : ByteArray} {v : V4} {x : Pik} : hitB nm v x = true ↔ x = ⟨nm, v⟩ := by
  unfold hitB
  obtain ⟨xn, xv⟩ := x
  rw [Bool.and_eq_true, V4.same_eq, decide_eq_true_eq, Pik.mk.injEq]
theorem hits_pos {picks : List Pik} {nm : ByteArray} {v : V4} : 0 < hitsN picks nm v ↔ (⟨nm, v⟩ : Pik) ∈ picks := by
  unfold hitsN
  rw [List.length_pos_iff_exists_mem]
  constructor
  · rintro ⟨x, hx⟩
    obtain ⟨h1, h2⟩ := List.mem_filter.1 hx
    rw [← hitB_iff.1 h2]; exact h1
  · intro h
    exact ⟨_, List.mem_filter.2 ⟨h, hitB_iff.2 rfl⟩⟩
theorem hits_one {picks : List Pik} (h : picks.Nodup) (nm : ByteArray) (v : V4) : hitsN picks nm v ≤ 1 := by
  unfold hitsN
  have hn := h.filter (hitB nm v)
  cases hl : picks.filter (hitB nm v) with
  | nil => exact Nat.zero_le _
  | cons x l =>
    cases l with
    | nil => exact Nat.le_refl _
    | cons y l =>
      rw [hl] at hn
      have h1 : x ∈ picks.filter (hitB nm v) := by rw [hl]; simp
      have h2 : y ∈ picks.filter (hitB nm v) := by rw [hl]; simp
      have e1 := hitB_iff.1 (List.mem_filter.1 h1).2
      have e2 := hitB_iff.1 (List.mem_filter.1 h2).2
      rw [e1, e2] at hn
      simp at hn
def metN' (picks : List Pik) (p : PP) : Nat := (p.os.map fun o => hitsN picks (S p.nm) o.v).sum
def metsTo (T : List PP) (picks : List Pik) (k : Nat) : Nat := ((T.take k).map (metN' picks)).sum
theorem metsTo_succ {T : List PP} {picks : List Pik} {k : Nat} (hk : k < T.length) : metsTo T picks (k + 1) = metsTo T picks k + metN' picks T[k] := by
  unfold metsTo
  rw [List.take_succ_eq_append_getElem hk, List.map_append, List.sum_append]
  simp
/-- the way that the reference finds -/
def WayR (picks : List Pik) (p : PP) (a : Nat) : Prop := (a = p.os.length ∧ ∀ k (h : k < p.os.length), hitsN picks (S p.nm) p.os[k].v = 0) ∨ ∃ h : a < p.os.length, 0 < hitsN picks (S p.nm) p.os[a].v
theorem sum_one {α : Type} {f : α → Nat} : ∀ {l : List α} {a : Nat}, (∀ i (h : i < l.length), i ≠ a → f l[i] = 0) → (l.map f).sum = match l[a]? with | some x => f x | none => 0
  | [], a, _ => by simp
  | x :: l, 0, h => by
    have : (l.map f).sum = 0 := by
      have h2 : ∀ y ∈ l, f y = 0 := by
        intro y hy
        obtain ⟨i, hi, rfl⟩ := List.getElem_of_mem hy
        exact h (i + 1) (by simpa using hi) (by omega)
      clear h
      induction l with
      | nil => rfl
      | cons y l ih =>
        rw [List.map_cons, List.sum_cons, h2 y List.mem_cons_self, ih fun z hz => h2 z (List.mem_cons_of_mem _ hz)]
    rw [List.map_cons, List.sum_cons, this]; simp
  | x :: l, a + 1, h => by
    have h0 := h 0 (by simp) (by omega)
    have ih := sum_one (f := f) (l := l) (a := a) fun i hi hne => h (i + 1) (by simpa using hi) (by omega)
    rw [List.map_cons, List.sum_cons, ih]
    simp only [List.getElem_cons_zero] at h0
    rw [h0]; simp
theorem mets_at {T : List PP} {picks : List Pik} (hV : TabV T) (ha : picks.Pairwise fun x y => x.name ≠ y.name) {ws : List Nat} {i a : Nat} (hi : i < T.length) (hwi : ws[i]? = some a) (hr : WayR picks T[i] a) :
    metN' picks T[i] = if (pickAt T ws i).isSome = true then 1 else 0 := by
  have htk := takenL_at hi hwi
  rcases hr with ⟨rfl, h0⟩ | ⟨hal, hpos⟩
  · rw [List.getElem?_eq_none (Nat.le_refl _)] at htk
    have e : (pickAt T ws i).isSome = false := by unfold pickAt; rw [htk]; rfl
    rw [e]
    unfold metN'
    rw [sum_one (a := T[i].os.length) (fun k hk _ => h0 k hk), List.getElem?_eq_none (Nat.le_refl _)]; rfl
  · rw [List.getElem?_eq_getElem hal] at htk
    have e : (pickAt T ws i).isSome = true := by unfold pickAt; rw [htk]; rfl
    rw [e, if_pos rfl]
    unfold metN'
    rw [sum_one (a := a) (fun k hk hne => ?_), List.getElem?_eq_getElem hal]
    · have := hits_one (nodup_of_apart ha) (S T[i].nm) T[i].os[a].v
      show hitsN _ _ _ = 1; omega
    · apply Nat.eq_zero_of_not_pos
      intro hk2
      have h1 := hits_pos.1 hpos
      have h2 := hits_pos.1 hk2
      have h3 := apart_one ha h1 h2 rfl
      rw [Pik.mk.injEq] at h3
      exact hne (vers_inj (hV _ (List.getElem_mem hi)) hk hal h3.2.symm)
theorem mets_len {T : List PP} {picks : List Pik} (hV : TabV T) (ha : picks.Pairwise fun x y => x.name ≠ y.name) {ws : List Nat} (hw : ∀ i (h : i < T.length), ∃ a, ws[i]? = some a ∧ WayR picks T[i] a) :
    ∀ k, k ≤ T.length → metsTo T picks k = (picksTo T ws k).length := by
  intro k hk
  induction k with
  | zero => rfl
  | succ k ih =>
    obtain ⟨a, h1, h2⟩ := hw k hk
    rw [metsTo_succ hk, ih (by omega), picksTo_succ, List.length_append, mets_at hV ha hk h1 h2]
    cases pickAt T ws k <;> rfl
theorem holds_ref {T : List PP} {asked : Nam → Bool} {picks : List Pik} (hT : TabW T) (hV : TabV T) (h : HoldsIs T asked picks) :
    ∃ ws, IsW (ksOf asked T) ws ∧ GoodW T asked ws ∧ (∀ i (h : i < T.length) a, WayR picks T[i] a → ws[i]? = some a) ∧ (picks.Pairwise fun x y => x.name ≠ y.name) ∧ metsTo T picks T.length = picks.length := by
  obtain ⟨ws, hw, hg, hp⟩ := h
  have hlen : ws.length = T.length := by rw [hw.1]; unfold ksOf; rw [List.length_map]
  have ha := apart_perm hp (picksL_apart hT ws)
  have hback : ∀ i, i < T.length → ∀ v, (⟨S (namL T i), v⟩ : Pik) ∈ picks → ∃ o, takenL T ws i = some o ∧ v = o.v := by
    intro i hi v hx
    obtain ⟨i', hi', o, ho, he⟩ := mem_picksL.1 (hp.mem_iff.1 hx)
    rw [Pik.mk.injEq] at he
    have := hT.inj hi' hi (S_inj he.1).symm
    subst this
    exact ⟨o, ho, he.2⟩
  have hwr : ∀ i (hi : i < T.length), ∃ a, ws[i]? = some a ∧ WayR picks T[i] a := by
    intro i hi
    have hwi := List.getElem?_eq_getElem (show i < ws.length by omega)
    obtain ⟨a, hae⟩ : ∃ a, ws[i]'(by omega) = a := ⟨_, rfl⟩
    rw [hae] at hwi
    refine ⟨a, hwi, ?_⟩
    have htk := takenL_at hi hwi
    have hnm := namL_at hi
    by_cases hal : a < T[i].os.length
    · rw [List.getElem?_eq_getElem hal] at htk
      refine .inr ⟨hal, ?_⟩
      rw [hits_pos, ← hnm]
      exact hp.mem_iff.2 (mem_picksL.2 ⟨i, hi, _, htk, rfl⟩)
    · have h4 := hw.2 i a _ hwi (ksOf_at hi)
      refine .inl ⟨by split at h4 <;> omega, fun k hk => ?_⟩
      rw [List.getElem?_eq_none (by omega)] at htk
      apply Nat.eq_zero_of_not_pos
      intro hpos
      have h5 := hits_pos.1 hpos
      rw [← hnm] at h5
      obtain ⟨o, ho, _⟩ := hback i hi _ h5
      rw [htk] at ho; cases ho
  refine ⟨ws, hw, hg, fun i hi b hb => ?_, ha, ?_⟩
  · obtain ⟨a, hwi, hra⟩ := hwr i hi
    rw [hwi]; congr 1
    rcases hra with ⟨rfl, h0⟩ | ⟨h1, h2⟩
    · rcases hb with ⟨rfl, _⟩ | ⟨h3, h4⟩
      · rfl
      · have := h0 b h3; omega
    · rcases hb with ⟨rfl, h0⟩ | ⟨h3, h4⟩
      · have := h0 a h1; omega
      · have h5 := apart_one ha (hits_pos.1 h2) (hits_pos.1 h4) rfl
        rw [Pik.mk.injEq] at h5
        exact vers_inj (hV _ (List.getElem_mem hi)) h1 h3 h5.2
  · rw [hp.length_eq]
    exact mets_len hV ha hwr _ (Nat.le_refl _)
theorem ref_holds {T : List PP} {asked : Nam → Bool} {picks : List Pik} (hT : TabW T) (hV : TabV T) {ws : List Nat} (hl : ws.length = T.length) (hg : GoodW T asked ws)
    (hw : ∀ i (h : i < T.length), ∃ a, ws[i]? = some a ∧ WayR picks T[i] a ∧ a < T[i].os.length + (if asked T[i].nm = true then 0 else 1)) (ha : picks.Pairwise fun x y => x.name ≠ y.name) (hm : metsTo T picks T.length = picks.length) : HoldsIs T asked picks := by
  refine ⟨ws, ⟨by rw [hl]; unfold ksOf; rw [List.length_map], fun i a k h1 h2 => ?_⟩, hg, ?_⟩
  · have hi : i < T.length := by rw [← hl]; exact (List.getElem?_eq_some_iff.1 h1).1
    obtain ⟨a', h3, _, h4⟩ := hw i hi
    rw [h3] at h1
    injection h1 with h1
    subst h1
    rw [ksOf_at hi] at h2
    injection h2 with h2
    subst h2
    exact h4
  · refine perm_of_sub (nodup_of_apart (picksL_apart hT ws)) (fun x hx => ?_) ?_
    · obtain ⟨i, hi, o, ho, rfl⟩ := mem_picksL.1 hx
      obtain ⟨a, h1, h2, _⟩ := hw i hi
      have htk := takenL_at hi h1
      rw [ho] at htk
      rcases h2 with ⟨rfl, _⟩ | ⟨h3, h4⟩
      · rw [List.getElem?_eq_none (Nat.le_refl _)] at htk; cases htk
      · rw [List.getElem?_eq_getElem h3] at htk
        injection htk with htk
        have := hits_pos.1 h4
        rw [← htk, ← namL_at hi] at this
        exact this
    · rw [← hm, mets_len hV ha (fun i hi => by obtain ⟨a, h1, h2, _⟩ := hw i hi; exact ⟨a, h1, h2⟩) _ (Nat.le_refl _)]
      exact Nat.le_refl _
end Go
