/- Solve, plainly: assignments in their order; the next one; the first one that is good. Solve, plainly: what goes together, what is needed; the search's parts. Solve, plainly: what goes together for needs goes together, in part, for fewer of them. Solve, plainly: picks that go together; how the program and the reference look. Solve and Explain, plainly: what the laws ask of what is told. -/
import Derived.Test.YtbgimpeklblcjaaGreatDoorChCounts
import Derived.Test.YtbgimpeklblcjaaGreatDoorChChk
namespace Go
/-- all assignments, in order -/
def allW : List Nat → List (List Nat)
 | [] => [[]]
 | k :: ks => (List.range k).flatMap fun a => (allW ks).map (a :: ·)
def prodL (ks : List Nat) : Nat := ks.foldr (· * ·) 1
/-- the ways of the first one, from 0 on: k of them -/
def flatW (k : Nat) (l : List (List Nat)) : List (List Nat) := (List.range k).flatMap fun a => l.map (a :: ·)
theorem flatW_zero (l : List (List Nat)) : flatW 0 l = [] := rfl
theorem flatW_succ (k : Nat) (l : List (List Nat)) : flatW (k + 1) l = flatW k l ++ l.map (k :: ·) := by
 unfold flatW; rw [List.range_succ, List.flatMap_append]; simp
theorem flatW_len (k : Nat) (l : List (List Nat)) : (flatW k l).length = k * l.length := by
 induction k with
 | zero => simp [flatW_zero]
 | succ k ih => rw [flatW_succ, List.length_append, ih, List.length_map, Nat.succ_mul]
theorem allW_cons (k : Nat) (ks : List Nat) : allW (k :: ks) = flatW k (allW ks) := rfl
theorem allW_len : ∀ ks : List Nat, (allW ks).length = prodL ks
 | [] => rfl
 | k :: ks => by rw [allW_cons, flatW_len, allW_len ks]; rfl
theorem mem_flatW {k : Nat} {l : List (List Nat)} {x : List Nat} : x ∈ flatW k l ↔ ∃ a, a < k ∧ ∃ y ∈ l, a :: y = x := by
 unfold flatW
 simp [List.mem_flatMap, List.mem_map, List.mem_range]
/-- an assignment -/
def IsW (ks ws : List Nat) : Prop := ws.length = ks.length ∧ ∀ (i a k : Nat), ws[i]? = some a → ks[i]? = some k → a < k
theorem mem_allW : ∀ {ks ws : List Nat}, ws ∈ allW ks ↔ IsW ks ws
 | [], ws => by
  constructor
  ·intro h
   have : ws = [] := by simpa [allW] using h
   subst this
   exact ⟨rfl, fun i a k h => by simp at h⟩
  ·rintro ⟨h, _⟩
   have : ws = [] := List.eq_nil_of_length_eq_zero h
   subst this
   simp [allW]
 | k :: ks, ws => by
  rw [allW_cons, mem_flatW]
  constructor
  ·rintro ⟨a, ha, y, hy, rfl⟩
   obtain ⟨h1, h2⟩ := mem_allW.1 hy
   refine ⟨by simp [h1], fun i b c hb hc => ?_⟩
   cases i with
   | zero => simp at hb hc; omega
   | succ i => exact h2 i b c (by simpa using hb) (by simpa using hc)
  ·rintro ⟨h1, h2⟩
   cases ws with
   | nil => simp at h1
   | cons a y =>
    refine ⟨a, h2 0 a k rfl rfl, y, mem_allW.2 ⟨by simpa using h1, fun i b c hb hc => h2 (i + 1) b c (by simpa using hb) (by simpa using hc)⟩, rfl⟩
/-! the next one -/
def zerosN (n : Nat) : List Nat := List.replicate n 0
def nextL : List Nat → List Nat → Option (List Nat)
 | k :: ks, a :: us => match nextL ks us with
  | some us' => some (a :: us')
  | none => if a + 1 < k then some ((a + 1) :: zerosN ks.length) else none
 | _, _ => none
/-! what is told -/
/-- the first good one of a list, if it is found with so many steps -/
def SolTold (g : List Nat → Prop) (l : List (List Nat)) (B : Nat) (r : Option (List Nat)) (n : Nat) (e : Int) : Prop :=
 (e = 0 ∧ ∃ m, ∃ h : m < l.length, r = some l[m] ∧ n = m + 1 ∧ n ≤ B ∧ g l[m] ∧ ∀ j (hj : j < l.length), j < m → ¬ g l[j]) ∨
 (e = 250 ∧ r = none ∧ n = l.length ∧ n ≤ B ∧ ∀ j (hj : j < l.length), ¬ g l[j]) ∨
 (e = 251 ∧ r = none ∧ n = B ∧ B < l.length ∧ ∀ j (hj : j < l.length), j < B → ¬ g l[j])
theorem SolTold.uniq {g : List Nat → Prop} {l : List (List Nat)} {B : Nat} {r r' : Option (List Nat)} {n n' : Nat} {e e' : Int} (h : SolTold g l B r n e) (h' : SolTold g l B r' n' e') : r = r' ∧ n = n' ∧ e = e' := by
 rcases h with ⟨rfl, m, hm, rfl, rfl, hB, hg, ha⟩ | ⟨rfl, rfl, rfl, hB, ha⟩ | ⟨rfl, rfl, rfl, hB, ha⟩ <;>
  rcases h' with ⟨rfl, m', hm', rfl, rfl, hB', hg', ha'⟩ | ⟨rfl, rfl, rfl, hB', ha'⟩ | ⟨rfl, rfl, rfl, hB', ha'⟩
 ·have e : m = m' := by
   rcases Nat.lt_trichotomy m m' with h | h | h
   ·exact absurd hg (ha' m hm h)
   ·exact h
   ·exact absurd hg' (ha m' hm' h)
  subst e; exact ⟨rfl, rfl, rfl⟩
 ·exact absurd hg (ha' m hm)
 ·exact absurd hg (ha' m hm (by omega))
 ·exact absurd hg' (ha m' hm')
 ·exact ⟨rfl, rfl, rfl⟩
 ·omega
 ·exact absurd hg' (ha m' hm' (by omega))
 ·omega
 ·exact ⟨rfl, rfl, rfl⟩
/-- what a search of a part tells: it was begun behind s steps -/
def Part (g : List Nat → Prop) (l : List (List Nat)) (s B : Nat) (found out : Bool) (n : Nat) (ws : List Nat) : Prop :=
 (found = true ∧ out = false ∧ ∃ m, ∃ h : m < l.length, ws = l[m] ∧ n = s + m + 1 ∧ n ≤ B ∧ g l[m] ∧ ∀ j (hj : j < l.length), j < m → ¬ g l[j]) ∨
 (found = false ∧ out = false ∧ n = s + l.length ∧ n ≤ B ∧ ∀ j (hj : j < l.length), ¬ g l[j]) ∨
 (found = false ∧ out = true ∧ B < s + l.length ∧ ∀ j (hj : j < l.length), s + j < B → ¬ g l[j])
theorem Part.told {g : List Nat → Prop} {l : List (List Nat)} {B n : Nat} {found out : Bool} {ws : List Nat} (h : Part g l 0 B found out n ws) :
  (found = true ∧ out = false ∧ SolTold g l B (some ws) n 0) ∨ (found = false ∧ out = false ∧ SolTold g l B none n 250) ∨ (found = false ∧ out = true ∧ SolTold g l B none B 251) := by
 rcases h with ⟨h1, h2, m, hm, rfl, hn, hB, hg, ha⟩ | ⟨h1, h2, hn, hB, ha⟩ | ⟨h1, h2, hB, ha⟩
 ·exact .inl ⟨h1, h2, .inl ⟨rfl, m, hm, rfl, by omega, hB, hg, ha⟩⟩
 ·exact .inr (.inl ⟨h1, h2, .inr (.inl ⟨rfl, rfl, by omega, hB, ha⟩)⟩)
 ·exact .inr (.inr ⟨h1, h2, .inr (.inr ⟨rfl, rfl, rfl, by omega, fun j hj h => ha j hj (by omega)⟩)⟩)
theorem nogood_append {g : List Nat → Prop} {l m : List (List Nat)} (h : ∀ j (hj : j < l.length), ¬ g l[j]) (h' : ∀ j (hj : j < m.length), ¬ g m[j]) : ∀ j (hj : j < (l ++ m).length), ¬ g (l ++ m)[j] := by
 intro j hj
 rw [List.getElem_append]
 split
 ·exact h _ _
 ·exact h' _ _
/-- a part behind one that has none -/
theorem Part.behind {g : List Nat → Prop} {p l q : List (List Nat)} {s B n : Nat} {found out : Bool} {ws : List Nat} (hp : ∀ j (hj : j < p.length), ¬ g p[j]) (h : Part g l (s + p.length) B found out n ws) (ho : found = true ∨ out = true) :
  Part g (p ++ l ++ q) s B found out n ws := by
 rcases h with ⟨h1, h2, m, hm, rfl, hn, hB, hg, ha⟩ | ⟨h1, h2, _⟩ | ⟨h1, h2, hB, ha⟩
 ·have e : (p ++ l ++ q)[p.length + m]'(by simp; omega) = l[m] := by
   rw [List.getElem_append_left (by simp; omega), List.getElem_append_right (by omega)]
   congr 1; omega
  refine .inl ⟨h1, h2, p.length + m, by simp; omega, e.symm, by omega, hB, by rw [e]; exact hg, fun j hj hjm => ?_⟩
  by_cases hjp : j < p.length
  ·rw [List.getElem_append_left (by simp; omega), List.getElem_append_left hjp]; exact hp j hjp
  ·rw [List.getElem_append_left (by simp; omega), List.getElem_append_right (by omega)]
   exact ha _ _ (by omega)
 ·rcases ho with ho | ho
  ·rw [h1] at ho; cases ho
  ·rw [h2] at ho; cases ho
 ·refine .inr (.inr ⟨h1, h2, by simp; omega, fun j hj hjB => ?_⟩)
  by_cases hjp : j < p.length
  ·rw [List.getElem_append_left (by simp; omega), List.getElem_append_left hjp]; exact hp j hjp
  ·have hjl : j < p.length + l.length := by omega
   rw [List.getElem_append_left (by simp; omega), List.getElem_append_right (by omega)]
   exact ha _ _ (by omega)
/-! the number of ways -/
theorem prodN_prodL {ks : List Nat} (h : ∀ k ∈ ks, k ≠ 0) : prodN ks = prodL ks := by
 have : ∀ (ks : List Nat) (P : Nat), (∀ k ∈ ks, k ≠ 0) → ks.foldl (fun a x => a * max x 1) P = P * prodL ks := by
  intro ks
  induction ks with
  | nil => intro P _; simp [prodL]
  | cons k ks ih =>
   intro P h
   have h0 := h k List.mem_cons_self
   have : max k 1 = k := by omega
   rw [List.foldl_cons, ih _ (fun x hx => h x (List.mem_cons_of_mem _ hx)), this]
   show P * k * prodL ks = P * (k * prodL ks)
   rw [Nat.mul_assoc]
 unfold prodN
 rw [this ks 1 h, Nat.one_mul]
theorem prodL_zero {ks : List Nat} (h : 0 ∈ ks) : prodL ks = 0 := by
 induction ks with
 | nil => cases h
 | cons k ks ih =>
  show k * prodL ks = 0
  rcases List.mem_cons.1 h with rfl | h
  ·rw [Nat.zero_mul]
  ·rw [ih h, Nat.mul_zero]
theorem count_all (ns : List (Want × Value)) (ts : List DPack) (m : Nat) : countN ns ts (m : Int) = ((min (prodL (ts.map (waysN ns))) m : Nat) : Int) := by
 unfold countN
 have hm : ¬ (m : Int) < 0 := by omega
 by_cases h : (ts.any fun p => decide (waysN ns p = 0)) = true
 ·rw [if_pos (.inr h)]
  obtain ⟨p, hp, hw⟩ := List.any_eq_true.1 h
  have hw := of_decide_eq_true hw
  rw [prodL_zero (List.mem_map.2 ⟨p, hp, hw⟩), Nat.zero_min]; rfl
 ·rw [if_neg (fun hh => hh.elim hm h)]
  have h2 : ∀ k ∈ ts.map (waysN ns), k ≠ 0 := by
   intro k hk h0
   obtain ⟨p, hp, hw⟩ := List.mem_map.1 hk
   exact h (List.any_eq_true.2 ⟨p, hp, decide_eq_true (by omega)⟩)
  rw [prodN_prodL h2]; rfl
end Go

namespace Go
open Go.RowKit
/-- a choice, and a package of choices, wherever they lie -/
structure PO where
 v : V4
 ws : List Want
structure PP where
 nm : Nam
 os : List PO
def DOff.po (o : DOff) : PO := ⟨o.v, o.ns.map Prod.fst⟩
def DPack.pp (p : DPack) : PP := ⟨pname p, p.os.map DOff.po⟩
def ppL (ts : List DPack) : List PP := ts.map DPack.pp
theorem ppL_len (ts : List DPack) : (ppL ts).length = ts.length := List.length_map _
theorem simP_pp {p q : DPack} (h : SimP p q) : p.pp = q.pp := by
 obtain ⟨h1, h2, h3⟩ := h
 have : p.os.map DOff.po = q.os.map DOff.po := by
  refine List.ext_getElem (by simp [h2]) fun k h4 h5 => ?_
  simp only [List.length_map] at h4 h5
  obtain ⟨e1, _, e3⟩ := h3 k h4 h5
  simp only [List.getElem_map, DOff.po, e1, e3]
 unfold DPack.pp pname
 rw [h1, this]
theorem ppL_eq {a b : List DPack} (hl : b.length = a.length) (h : ∀ k (h : k < a.length) (h' : k < b.length), SimP a[k] b[k]) : ppL a = ppL b := by
 refine List.ext_getElem (by simp [ppL, hl]) fun k h4 h5 => ?_
 simp only [ppL, List.length_map] at h4 h5
 simp only [ppL, List.getElem_map]
 exact simP_pp (h k h4 h5)
theorem tables_pp {lock : List Pik} {needs : List (Want × Value)} {ps a b : List DPack} (ha : TableIs lock needs ps a) (hb : TableIs lock needs ps b) : ppL a = ppL b :=
 let ⟨h1, h2⟩ := two_tables ha hb
 ppL_eq h1 h2
/-- what is taken of a package -/
def takenL (T : List PP) (ws : List Nat) (i : Nat) : Option PO := T[i]?.bind fun p => ws[i]?.bind fun a => p.os[a]?
def namL (T : List PP) (i : Nat) : Nam := (T[i]?.map PP.nm).getD []
def metN (p : Option PO) (n : Want) : Bool := match p with
 | none => false
 | some p => meetsR p.v n.bs
def metO (o : PO) (nm : Nam) (p : Option PO) : Bool := o.ws.all fun n => !(decide (n.name = nm)) || metN p n
def meetL (T : List PP) (ws : List Nat) (i k : Nat) : Bool := match takenL T ws i with
 | none => true
 | some o => metO o (namL T k) (takenL T ws k)
def fitL (T : List PP) (ws : List Nat) (i : Nat) : Bool := (List.range (i + 1)).all fun k => meetL T ws i k && meetL T ws k i
theorem takenL_congr {T : List PP} {ws ws' : List Nat} {i : Nat} (h : ws[i]? = ws'[i]?) : takenL T ws i = takenL T ws' i := by unfold takenL; rw [h]
theorem meetL_congr {T : List PP} {ws ws' : List Nat} {i k : Nat} (h : ws[i]? = ws'[i]?) (h' : ws[k]? = ws'[k]?) : meetL T ws i k = meetL T ws' i k := by
 unfold meetL; rw [takenL_congr h, takenL_congr h']
theorem all_congr {α : Type} {l : List α} {p q : α → Bool} (h : ∀ x ∈ l, p x = q x) : l.all p = l.all q := by
 induction l with
 | nil => rfl
 | cons x l ih => rw [List.all_cons, List.all_cons, h x List.mem_cons_self, ih fun y hy => h y (List.mem_cons_of_mem _ hy)]
theorem fitL_congr {T : List PP} {ws ws' : List Nat} {i : Nat} (h : ∀ j, j ≤ i → ws[j]? = ws'[j]?) : fitL T ws i = fitL T ws' i := by
 unfold fitL
 refine all_congr fun k hk => ?_
 have hk : k < i + 1 := List.mem_range.1 hk
 rw [meetL_congr (h i (Nat.le_refl _)) (h k (by omega)), meetL_congr (h k (by omega)) (h i (Nat.le_refl _))]
theorem fitL_iff {T : List PP} {ws : List Nat} {i : Nat} : fitL T ws i = true ↔ ∀ k, k ≤ i → meetL T ws i k = true ∧ meetL T ws k i = true := by
 unfold fitL
 rw [List.all_eq_true]
 constructor
 ·intro h k hk
  have := h k (List.mem_range.2 (by omega))
  rwa [Bool.and_eq_true] at this
 ·intro h k hk
  rw [Bool.and_eq_true]
  exact h k (by have := List.mem_range.1 hk; omega)
/-- a table that may be: names rise, each need's name is there -/
structure TabW (T : List PP) : Prop where
 up : (T.map PP.nm).Pairwise (· < ·)
 cl : ∀ p ∈ T, ∀ o ∈ p.os, ∀ n ∈ o.ws, n.name ∈ T.map PP.nm
theorem namL_at {T : List PP} {i : Nat} (h : i < T.length) : namL T i = T[i].nm := by unfold namL; rw [List.getElem?_eq_getElem h]; rfl
theorem mem_nam {T : List PP} {nm : Nam} (h : nm ∈ T.map PP.nm) : ∃ k, k < T.length ∧ namL T k = nm := by
 obtain ⟨p, hp, rfl⟩ := List.mem_map.1 h
 obtain ⟨k, hk, rfl⟩ := List.getElem_of_mem hp
 exact ⟨k, hk, namL_at hk⟩
theorem TabW.lt {T : List PP} (h : TabW T) {i k : Nat} (hik : i < k) (hk : k < T.length) : namL T i < namL T k := by
 rw [namL_at hk, namL_at (by omega)]
 have := List.pairwise_iff_getElem.1 h.up i k (by simp; omega) (by simp; omega) hik
 simpa using this
theorem TabW.inj {T : List PP} (h : TabW T) {i k : Nat} (hi : i < T.length) (hk : k < T.length) (e : namL T i = namL T k) : i = k := by
 rcases Nat.lt_trichotomy i k with h1 | h1 | h1
 ·have := h.lt h1 hk; rw [e] at this; exact absurd this (List.lt_irrefl _)
 ·exact h1
 ·have := h.lt h1 hi; rw [e] at this; exact absurd this (List.lt_irrefl _)
theorem taken_mem {T : List PP} {ws : List Nat} {i : Nat} {o : PO} (h : takenL T ws i = some o) : ∃ p ∈ T, o ∈ p.os := by
 unfold takenL at h
 rcases hp : T[i]? with _ | p
 ·rw [hp] at h; cases h
 ·rw [hp] at h
  rcases ha : ws[i]? with _ | a
  ·rw [ha] at h; cases h
  ·rw [ha] at h
   exact ⟨p, List.mem_of_getElem? hp, List.mem_of_getElem? h⟩
/-- all needs of what is taken are met -/
def ClosedL (T : List PP) (ws : List Nat) : Prop :=
 ∀ i, i < T.length → ∀ o, takenL T ws i = some o → ∀ n ∈ o.ws, ∃ k, k < T.length ∧ namL T k = n.name ∧ metN (takenL T ws k) n = true
theorem meetL_iff {T : List PP} {ws : List Nat} {i k : Nat} : meetL T ws i k = true ↔ ∀ o, takenL T ws i = some o → ∀ n ∈ o.ws, n.name = namL T k → metN (takenL T ws k) n = true := by
 unfold meetL
 cases h : takenL T ws i with
 | none => simp
 | some o =>
  simp only [metO, List.all_eq_true, Bool.or_eq_true, Bool.not_eq_true', decide_eq_false_iff_not]
  constructor
  ·rintro h o' h' n hn he
   injection h' with h'
   subst h'
   exact (h n hn).resolve_left fun hh => hh he
  ·intro h n hn
   by_cases he : n.name = namL T k
   ·exact .inr (h o rfl n hn he)
   ·exact .inl he
theorem fits_closed {T : List PP} {ws : List Nat} (hT : TabW T) : (∀ i, i < T.length → fitL T ws i = true) ↔ ClosedL T ws := by
 constructor
 ·intro h i hi o ho n hn
  obtain ⟨p, hp, hop⟩ := taken_mem ho
  obtain ⟨k, hk, hnm⟩ := mem_nam (hT.cl p hp o hop n hn)
  refine ⟨k, hk, hnm, ?_⟩
  have hm : meetL T ws i k = true := by
   by_cases hik : k ≤ i
   ·exact (fitL_iff.1 (h i hi) k hik).1
   ·exact (fitL_iff.1 (h k hk) i (by omega)).2
  exact meetL_iff.1 hm o ho n hn hnm.symm
 ·intro h i hi
  have key : ∀ i k, i < T.length → k < T.length → meetL T ws i k = true := fun i k hi hk => meetL_iff.2 fun o ho n hn he => by
   obtain ⟨k', hk', hnm, hm⟩ := h i hi o ho n hn
   have := hT.inj hk' hk (hnm.trans he)
   subst this; exact hm
  exact fitL_iff.2 fun k hk => ⟨key i k hi (by omega), key k i (by omega) hi⟩
/-- from what is taken to what it needs, if that is taken -/
def StepG (T : List PP) (ws : List Nat) (i k : Nat) : Prop := k < T.length ∧ (∃ p, takenL T ws k = some p) ∧ ∃ o, takenL T ws i = some o ∧ ∃ n ∈ o.ws, n.name = namL T k
def StartG (T : List PP) (asked : Nam → Bool) (ws : List Nat) (i : Nat) : Prop := i < T.length ∧ asked (namL T i) = true ∧ ∃ p, takenL T ws i = some p
def ReachG (T : List PP) (asked : Nam → Bool) (ws : List Nat) (i : Nat) : Prop := ∃ s, StartG T asked ws s ∧ Goes (StepG T ws) s i
def GroundW (T : List PP) (asked : Nam → Bool) (ws : List Nat) : Prop := ∀ i, i < T.length → ∀ p, takenL T ws i = some p → ReachG T asked ws i
def GoodW (T : List PP) (asked : Nam → Bool) (ws : List Nat) : Prop := (∀ i, i < T.length → fitL T ws i = true) ∧ GroundW T asked ws
/-- how many ways there are for each -/
def ksOf (asked : Nam → Bool) (T : List PP) : List Nat := T.map fun p => p.os.length + if asked p.nm = true then 0 else 1
def askN (needs : List (Want × Value)) (nm : Nam) : Bool := needs.any fun x => decide (x.1.name = nm)
theorem ks_ways (needs : List (Want × Value)) (ts : List DPack) : ts.map (waysN needs) = ksOf (askN needs) (ppL ts) := by
 unfold ksOf ppL
 rw [List.map_map]
 refine List.map_congr_left fun p _ => ?_
 show _ = (p.os.map DOff.po).length + _
 rw [List.length_map]; rfl
/-! the search's parts -/
/-- the assignments that go on from what is taken so far -/
def complW (ks : List Nat) (i : Nat) (pre : List Nat) : List (List Nat) := (allW (ks.drop i)).map (pre ++ ·)
theorem complW_len (ks : List Nat) (i : Nat) (pre : List Nat) : (complW ks i pre).length = prodL (ks.drop i) := by unfold complW; rw [List.length_map, allW_len]
theorem complW_end {ks : List Nat} {i : Nat} (h : ks.length ≤ i) (pre : List Nat) : complW ks i pre = [pre] := by
 unfold complW; rw [List.drop_eq_nil_of_le h]; simp [allW]
/-- those of the first few ways -/
def doneW (ks : List Nat) (i : Nat) (pre : List Nat) (a : Nat) : List (List Nat) := (flatW a (allW (ks.drop (i + 1)))).map (pre ++ ·)
theorem doneW_zero (ks : List Nat) (i : Nat) (pre : List Nat) : doneW ks i pre 0 = [] := rfl
theorem doneW_succ (ks : List Nat) (i : Nat) (pre : List Nat) (a : Nat) : doneW ks i pre (a + 1) = doneW ks i pre a ++ complW ks (i + 1) (pre ++ [a]) := by
 unfold doneW complW
 rw [flatW_succ, List.map_append, List.map_map]
 congr 1
 refine List.map_congr_left fun x _ => ?_
 simp
theorem doneW_all {ks : List Nat} {i k : Nat} (h : ks[i]? = some k) (pre : List Nat) : doneW ks i pre k = complW ks i pre := by
 obtain ⟨h1, h2⟩ := List.getElem?_eq_some_iff.1 h
 unfold doneW complW
 rw [List.drop_eq_getElem_cons h1, h2, allW_cons]
theorem flatW_split {k a : Nat} (h : a ≤ k) (l : List (List Nat)) : ∃ q, flatW k l = flatW a l ++ q := by
 obtain ⟨d, rfl⟩ := Nat.exists_eq_add_of_le h
 induction d with
 | zero => exact ⟨[], by simp⟩
 | succ d ih =>
  obtain ⟨q, hq⟩ := ih (by omega)
  exact ⟨q ++ l.map ((a + d) :: ·), by rw [Nat.add_succ, flatW_succ, hq, List.append_assoc]⟩
theorem doneW_split {ks : List Nat} {i k a : Nat} (h : ks[i]? = some k) (ha : a < k) (pre : List Nat) : ∃ q, complW ks i pre = doneW ks i pre a ++ complW ks (i + 1) (pre ++ [a]) ++ q := by
 obtain ⟨q, hq⟩ := flatW_split (show a + 1 ≤ k from ha) (allW (ks.drop (i + 1)))
 refine ⟨q.map (pre ++ ·), ?_⟩
 rw [← doneW_succ, ← doneW_all h]
 unfold doneW
 rw [hq, List.map_append]
/-- what does not fit is none's beginning -/
theorem nofit {T : List PP} {asked : Nam → Bool} {ks ws pre : List Nat} {i : Nat} (hi : i < T.length) (hw : ws.take (i + 1) = pre) (hl : pre.length = i + 1) (hf : fitL T ws i = false) :
  ∀ j (hj : j < (complW ks (i + 1) pre).length), ¬ GoodW T asked (complW ks (i + 1) pre)[j] := by
 intro j hj hg
 have h1 := hg.1 i hi
 have h2 : fitL T (complW ks (i + 1) pre)[j] i = fitL T ws i := by
  refine fitL_congr fun k hk => ?_
  have h3 : (complW ks (i + 1) pre)[j] = pre ++ (allW (ks.drop (i + 1)))[j]'(by simpa [complW] using hj) := by simp [complW]
  rw [h3, List.getElem?_append_left (by omega), ← hw, List.getElem?_take_of_lt (by omega)]
 rw [h2, hf] at h1; cases h1
/-- one that is whole -/
theorem part_one {T : List PP} {asked : Nam → Bool} {ks ws : List Nat} {s B : Nat} {b : Bool} (hw : ws.length ≤ T.length) (hk : ks.length = T.length) (hs : s + 1 ≤ B) (hg : b = true ↔ GoodW T asked ws) :
  Part (GoodW T asked) (complW ks T.length (ws.take T.length)) s B b false (s + 1) ws := by
 rw [complW_end (by omega), List.take_of_length_le hw]
 cases b
 ·exact .inr (.inl ⟨rfl, rfl, rfl, hs, fun j hj h => by simp at hj; subst hj; have := hg.2 (by simpa using h); cases this⟩)
 ·exact .inl ⟨rfl, rfl, 0, by simp, rfl, by simp, hs, by simpa using hg.1 rfl, fun j _ h => by omega⟩
theorem part_over {T : List PP} {asked : Nam → Bool} {ks ws : List Nat} {s B n : Nat} (hk : ks.length = T.length) (hs : B ≤ s) :
  Part (GoodW T asked) (complW ks T.length (ws.take T.length)) s B false true n ws := by
 refine .inr (.inr ⟨rfl, rfl, ?_, fun j _ h => by omega⟩)
 rw [complW_end (by omega)]; simp; omega
/-- the picks of an assignment -/
def pickAt (T : List PP) (ws : List Nat) (i : Nat) : Option Pik := (takenL T ws i).map fun o => ⟨S (namL T i), o.v⟩
def picksTo (T : List PP) (ws : List Nat) (k : Nat) : List Pik := (List.range k).filterMap (pickAt T ws)
theorem picksTo_succ (T : List PP) (ws : List Nat) (k : Nat) : picksTo T ws (k + 1) = picksTo T ws k ++ (pickAt T ws k).toList := by
 unfold picksTo
 rw [List.range_succ, List.filterMap_append]
 cases h : pickAt T ws k <;> simp [h]
def picksL (T : List PP) (ws : List Nat) : List Pik := picksTo T ws T.length
/-- what solving comes to -/
def SolIs (lock : List Pik) (needs : List (Want × Value)) (ps : List DPack) (budget : Int) (r : List Pik) (n : Nat) (e : Int) : Prop :=
 (needErr needs ≠ 0 ∧ r = [] ∧ n = 0 ∧ e = needErr needs) ∨ (needErr needs = 0 ∧ (budget < 1 ∨ 1000000 < budget) ∧ r = [] ∧ n = 0 ∧ e = 2) ∨
 (needErr needs = 0 ∧ 1 ≤ budget ∧ budget ≤ 1000000 ∧ ∃ ts, TableIs lock needs ps ts ∧ ∃ ws, SolTold (GoodW (ppL ts) (askN needs)) (allW (ksOf (askN needs) (ppL ts))) budget.toNat ws n e ∧ r = (ws.map (picksL (ppL ts))).getD [])
theorem SolIs.uniq {lock : List Pik} {needs : List (Want × Value)} {ps : List DPack} {budget : Int} {r r' : List Pik} {n n' : Nat} {e e' : Int} (h : SolIs lock needs ps budget r n e) (h' : SolIs lock needs ps budget r' n' e') : r = r' ∧ n = n' ∧ e = e' := by
 rcases h with ⟨h1, h2, h3, h4⟩ | ⟨h1, h2, h3, h4, h5⟩ | ⟨h1, h2, h3, ts, ht, ws, hw, hr⟩ <;>
  rcases h' with ⟨g1, g2, g3, g4⟩ | ⟨g1, g2, g3, g4, g5⟩ | ⟨g1, g2, g3, ts', ht', ws', hw', hr'⟩
 ·exact ⟨by rw [h2, g2], by omega, by omega⟩
 ·exact absurd g1 h1
 ·exact absurd g1 h1
 ·exact absurd h1 g1
 ·exact ⟨by rw [h3, g3], by omega, by omega⟩
 ·omega
 ·exact absurd h1 g1
 ·omega
 ·rw [tables_pp ht' ht] at hw' hr'
  obtain ⟨e1, e2, e3⟩ := hw.uniq hw'
  exact ⟨by rw [hr, hr', e1], e2, e3⟩
/-- a table of choices may be -/
theorem table_W {lock : List Pik} {needs : List (Want × Value)} {ps ts : List DPack} (h : TableIs lock needs ps ts) : TabW (ppL ts) := by
 have e : (ppL ts).map PP.nm = ts.map pname := by unfold ppL; rw [List.map_map]; rfl
 refine ⟨by rw [e]; exact h.up, fun p hp o ho n hn => ?_⟩
 rw [e]
 obtain ⟨t, ht, rfl⟩ := List.mem_map.1 hp
 obtain ⟨q, hq, rfl⟩ := List.mem_map.1 ho
 obtain ⟨x, hx, rfl⟩ := List.mem_map.1 hn
 obtain ⟨out, hc, hs⟩ := h.each t ht
 obtain ⟨k, hk, rfl⟩ := List.getElem_of_mem hq
 have hk' : k < out.length := by have := hs.1; omega
 have hsm := (hs.2 k hk' hk).2.2
 have hx' : x.1 ∈ out[k].ns.map Prod.fst := by rw [hsm]; exact List.mem_map.2 ⟨x, hx, rfl⟩
 obtain ⟨y, hy, hye⟩ := List.mem_map.1 hx'
 have hr : ReachedN lock needs ps (pname t) := (h.just _).1 (List.mem_map.2 ⟨t, ht, rfl⟩)
 obtain ⟨s, hs', hg⟩ := hr
 refine (h.just _).2 ⟨s, hs', hg.tail ?_⟩
 refine (edge_of (out := out) (by rw [pname_S]; exact hc) _).2 ⟨out[k], List.getElem_mem hk', y, hy, ?_⟩
 show y.1.name = x.1.name
 rw [hye]
end Go

namespace Go
open Go.RowKit
/-- an offer that is selected is the first of its version that may be -/
theorem mem_sel {lock : List Pik} {nm : ByteArray} {needs : List (Want × Value)} {x : DOff} : ∀ (os out : List DOff), (∀ o ∈ out, fitO lock nm needs o = true) →
  (x ∈ os.foldl (selStep lock nm needs) out ↔ x ∈ out ∨ ∃ l1 l2, os = l1 ++ x :: l2 ∧ fitO lock nm needs x = true ∧ (∀ y ∈ out, y.v ≠ x.v) ∧ ∀ y ∈ l1, y.v = x.v → fitO lock nm needs y = false)
 | [], out, _ => by simp
 | o :: os, out, hf => by
  rw [List.foldl_cons]
  have hth : thereB out o = true ↔ ∃ y ∈ out, y.v = o.v := by
   unfold thereB
   rw [List.any_eq_true]
   constructor
   ·rintro ⟨y, hy, h⟩; exact ⟨y, hy, (V4.same_eq _ _).1 h⟩
   ·rintro ⟨y, hy, h⟩; exact ⟨y, hy, (V4.same_eq _ _).2 h⟩
  by_cases hc : thereB out o = false ∧ fitO lock nm needs o = true
  ·have e : selStep lock nm needs out o = out ++ [o] := by unfold selStep; rw [if_pos hc]
   rw [e, mem_sel os (out ++ [o]) (fun y hy => by
    rcases List.mem_append.1 hy with hy | hy
    ·exact hf y hy
    ·simp at hy; subst hy; exact hc.2)]
   constructor
   ·rintro (h | ⟨l1, l2, rfl, h1, h2, h3⟩)
    ·rcases List.mem_append.1 h with h | h
     ·exact .inl h
     ·simp at h; subst h
      refine .inr ⟨[], os, rfl, hc.2, fun y hy he => ?_, fun y hy => by cases hy⟩
      have := hth.2 ⟨y, hy, he⟩
      rw [hc.1] at this; cases this
    ·refine .inr ⟨o :: l1, l2, rfl, h1, fun y hy => h2 y (List.mem_append_left _ hy), fun y hy he => ?_⟩
     rcases List.mem_cons.1 hy with rfl | hy
     ·exact absurd he (h2 y (by simp))
     ·exact h3 y hy he
   ·rintro (h | ⟨l1, l2, h0, h1, h2, h3⟩)
    ·exact .inl (List.mem_append_left _ h)
    ·cases l1 with
     | nil =>
      injection h0 with h0 _
      subst h0
      exact .inl (by simp)
     | cons z l1 =>
      injection h0 with h0 h4
      subst h0
      refine .inr ⟨l1, l2, h4, h1, fun y hy he => ?_, fun y hy he => h3 y (by simp [hy]) he⟩
      rcases List.mem_append.1 hy with hy | hy
      ·exact h2 y hy he
      ·simp at hy; subst hy
       have := h3 y (by simp) he
       rw [hc.2] at this; cases this
  ·have e : selStep lock nm needs out o = out := by unfold selStep; rw [if_neg hc]
   rw [e, mem_sel os out hf]
   constructor
   ·rintro (h | ⟨l1, l2, rfl, h1, h2, h3⟩)
    ·exact .inl h
    ·refine .inr ⟨o :: l1, l2, rfl, h1, h2, fun y hy he => ?_⟩
     rcases List.mem_cons.1 hy with rfl | hy
     ·cases hfy : fitO lock nm needs y with
      | false => rfl
      | true =>
       have ht : thereB out y = true := by
        cases h : thereB out y with
        | true => rfl
        | false => exact absurd ⟨h, hfy⟩ hc
       obtain ⟨z, hz, hze⟩ := hth.1 ht
       exact absurd (hze.trans he) (h2 z hz)
     ·exact h3 y hy he
   ·rintro (h | ⟨l1, l2, h0, h1, h2, h3⟩)
    ·exact .inl h
    ·cases l1 with
     | nil =>
      injection h0 with h0 _
      subst h0
      exfalso
      apply hc
      refine ⟨?_, h1⟩
      cases h : thereB out o with
      | false => rfl
      | true =>
       obtain ⟨z, hz, hze⟩ := hth.1 h
       exact absurd hze (h2 z hz)
     | cons z l1 =>
      injection h0 with h0 h4
      subst h0
      exact .inr ⟨l1, l2, h4, h1, h2, fun y hy he => h3 y (by simp [hy]) he⟩
theorem fit_split {lock : List Pik} {nm : ByteArray} {needs : List (Want × Value)} {o : DOff} : fitO lock nm needs o = true ↔ (o.v.ok = true ∧ (!o.y || lockedB lock nm o.v) = true) ∧ ∀ x ∈ needs, needOk nm o.v x = true := by
 unfold fitO
 rw [Bool.and_eq_true, Bool.and_eq_true, List.all_eq_true]
/-- with fewer needs each choice is one still -/
theorem sel_fewer {lock : List Pik} {nm : ByteArray} {needs needs' : List (Want × Value)} (hs : ∀ x ∈ needs', x ∈ needs) {os : List DOff} {x : DOff} (h : x ∈ selL lock nm needs os) : x ∈ selL lock nm needs' os := by
 unfold selL at h ⊢
 rcases (mem_sel os [] (fun o h => by cases h)).1 h with h | ⟨l1, l2, h0, h1, _, h3⟩
 ·cases h
 ·refine (mem_sel os [] (fun o h => by cases h)).2 (.inr ⟨l1, l2, h0, ?_, fun y hy => by (cases hy), fun y hy he => ?_⟩)
  ·obtain ⟨a, b⟩ := fit_split.1 h1
   exact fit_split.2 ⟨a, fun z hz => b z (hs z hz)⟩
  ·cases hf : fitO lock nm needs' y with
   | false => rfl
   | true =>
    have := h3 y hy he
    obtain ⟨a, _⟩ := fit_split.1 hf
    obtain ⟨_, b⟩ := fit_split.1 h1
    rw [fit_split.2 ⟨a, fun z hz => by rw [he]; exact b z hz⟩] at this
    cases this
theorem SimO.po {a b : DOff} (h : SimO a b) : a.po = b.po := by
 obtain ⟨h1, _, h3⟩ := h
 unfold DOff.po; rw [h1, h3]
theorem simOs_po {a b : List DOff} (h : SimOs a b) : a.map DOff.po = b.map DOff.po := by
 refine List.ext_getElem (by simp [h.1]) fun k h4 h5 => ?_
 simp only [List.length_map] at h4 h5
 simp only [List.getElem_map]
 exact (h.2 k h4 h5).po
/-- the choices of a table's package, wherever they lie -/
theorem table_po {lock : List Pik} {needs : List (Want × Value)} {ps ts : List DPack} (h : TableIs lock needs ps ts) {i : Nat} (hi : i < (ppL ts).length) (o : PO) :
  o ∈ (ppL ts)[i].os ↔ ∃ x ∈ selL lock (S (namL (ppL ts) i)) needs (findP ps (S (namL (ppL ts) i))).os, x.po = o := by
 have hi' : i < ts.length := by rw [ppL_len] at hi; exact hi
 have e1 : (ppL ts)[i] = ts[i].pp := by simp [ppL]
 have e2 : S (namL (ppL ts) i) = ts[i].name := by rw [namL_at hi, e1]; exact pname_S _
 obtain ⟨out, hc, hs⟩ := h.each ts[i] (List.getElem_mem hi')
 rw [e1, e2]
 show o ∈ ts[i].os.map DOff.po ↔ _
 rw [← simOs_po hs, List.mem_map]
 constructor
 ·rintro ⟨x, hx, rfl⟩; exact ⟨x, hc.1.mem_iff.1 hx, rfl⟩
 ·rintro ⟨x, hx, rfl⟩; exact ⟨x, hc.1.mem_iff.2 hx, rfl⟩
theorem askN_iff {needs : List (Want × Value)} {nm : Nam} : askN needs nm = true ↔ nm ∈ needs.map wname := by
 unfold askN
 rw [List.any_eq_true, List.mem_map]
 constructor
 ·rintro ⟨x, hx, h⟩; exact ⟨x, hx, of_decide_eq_true h⟩
 ·rintro ⟨x, hx, h⟩; exact ⟨x, hx, decide_eq_true h⟩
theorem ppL_names (ts : List DPack) : (ppL ts).map PP.nm = ts.map pname := by unfold ppL; rw [List.map_map]; rfl
/-- an assignment that takes what is wanted -/
theorem build_ws {T : List PP} {asked : Nam → Bool} (Q : Nat → PO → Prop) (hin : ∀ j (h : j < T.length) o, Q j o → o ∈ T[j].os) (hu : ∀ j o o', Q j o → Q j o' → o = o') (ha : ∀ j, j < T.length → asked (namL T j) = true → ∃ o, Q j o) :
  ∃ ws, IsW (ksOf asked T) ws ∧ ∀ j, j < T.length → ∀ o, takenL T ws j = some o ↔ Q j o := by
 have hf : ∀ j (h : j < T.length), ∃ a, a ≤ T[j].os.length ∧ (∀ o, T[j].os[a]? = some o ↔ Q j o) ∧ (asked (namL T j) = true → a < T[j].os.length) := by
  intro j h
  by_cases hq : ∃ o, Q j o
  ·obtain ⟨o, ho⟩ := hq
   obtain ⟨a, hl, he⟩ := List.getElem_of_mem (hin j h o ho)
   refine ⟨a, by omega, fun o' => ⟨fun e => ?_, fun h' => ?_⟩, fun _ => hl⟩
   ·rw [List.getElem?_eq_getElem hl, he] at e
    injection e with e; subst e; exact ho
   ·rw [List.getElem?_eq_getElem hl, he, hu j o o' ho h']
  ·refine ⟨T[j].os.length, Nat.le_refl _, fun o => ?_, fun h' => absurd (ha j h h') hq⟩
   rw [List.getElem?_eq_none (Nat.le_refl _)]
   exact ⟨fun e => (by cases e), fun h' => absurd ⟨o, h'⟩ hq⟩
 let f : Nat → Nat := fun j => if h : j < T.length then (hf j h).choose else 0
 have hfs : ∀ j (h : j < T.length), f j ≤ T[j].os.length ∧ (∀ o, T[j].os[f j]? = some o ↔ Q j o) ∧ (asked (namL T j) = true → f j < T[j].os.length) := by
  intro j h
  have : f j = (hf j h).choose := by show (if h : j < T.length then (hf j h).choose else 0) = _; rw [dif_pos h]
  rw [this]; exact (hf j h).choose_spec
 have hg : ∀ j, j < T.length → ((List.range T.length).map f)[j]? = some (f j) := fun j h => by
  rw [List.getElem?_map, List.getElem?_range h]; rfl
 refine ⟨(List.range T.length).map f, ⟨by simp [ksOf], fun i a k h1 h2 => ?_⟩, fun j h o => ?_⟩
 ·have hi : i < T.length := by
   have := (List.getElem?_eq_some_iff.1 h1).1
   simpa using this
  rw [hg i hi] at h1
  injection h1 with h1
  subst h1
  obtain ⟨g1, _, g3⟩ := hfs i hi
  unfold ksOf at h2
  rw [List.getElem?_map, List.getElem?_eq_getElem hi] at h2
  have h2 : T[i].os.length + (if asked T[i].nm = true then 0 else 1) = k := by injection h2
  subst h2
  by_cases h : asked (namL T i) = true
  ·have := g3 h
   show f i < _
   omega
  ·rw [namL_at hi] at h
   rw [if_neg h]
   show f i < _
   omega
 ·unfold takenL
  rw [List.getElem?_eq_getElem h, hg j h]
  exact (hfs j h).2.1 o
/-- THE LAW: of what goes together, what the fewer needs reach goes together -/
theorem good_fewer {lock : List Pik} {needs needs' : List (Want × Value)} {ps ts ts' : List DPack} (h : TableIs lock needs ps ts) (h' : TableIs lock needs' ps ts') (hs : ∀ x ∈ needs', x ∈ needs)
  {ws : List Nat} (hw : IsW (ksOf (askN needs) (ppL ts)) ws) (hg : GoodW (ppL ts) (askN needs) ws) :
  ∃ ws', IsW (ksOf (askN needs') (ppL ts')) ws' ∧ GoodW (ppL ts') (askN needs') ws' := by
 have hT := table_W h
 have hT' := table_W h'
 have hcl := (fits_closed hT).1 hg.1
 have hlen : ws.length = (ppL ts).length := by rw [hw.1]; unfold ksOf; rw [List.length_map]
 -- what stands behind a name
 have hin : ∀ i j o, i < (ppL ts).length → (hj : j < (ppL ts').length) → namL (ppL ts) i = namL (ppL ts') j → takenL (ppL ts) ws i = some o → o ∈ (ppL ts')[j].os := by
  intro i j o hi hj hn ht
  have ho : o ∈ (ppL ts)[i].os := by
   unfold takenL at ht
   rw [List.getElem?_eq_getElem hi] at ht
   rcases ha : ws[i]? with _ | a
   ·rw [ha] at ht; cases ht
   ·rw [ha] at ht; exact List.mem_of_getElem? ht
  obtain ⟨x, hx, rfl⟩ := (table_po h hi o).1 ho
  rw [hn] at hx
  exact (table_po h' hj _).2 ⟨x, sel_fewer hs hx, rfl⟩
 have hstart : ∀ s, StartG (ppL ts) (askN needs') ws s → ∃ j, j < (ppL ts').length ∧ namL (ppL ts') j = namL (ppL ts) s := by
  rintro s ⟨h1, h2, _⟩
  refine mem_nam ?_
  rw [ppL_names]
  exact (h'.just _).2 ⟨_, askN_iff.1 h2, .refl _⟩
 have hstep : ∀ i k j, i < (ppL ts).length → j < (ppL ts').length → namL (ppL ts') j = namL (ppL ts) i → StepG (ppL ts) ws i k → ∃ j', j' < (ppL ts').length ∧ namL (ppL ts') j' = namL (ppL ts) k := by
  rintro i k j hi hj hn ⟨hk, ⟨p, hp⟩, o, ho, n, hnm, hne⟩
  rw [← hne]
  exact mem_nam (hT'.cl _ (List.getElem_mem hj) o (hin i j o hi hj hn.symm ho) n hnm)
 have hreach : ∀ i, ReachG (ppL ts) (askN needs') ws i → i < (ppL ts).length ∧ ∃ j, j < (ppL ts').length ∧ namL (ppL ts') j = namL (ppL ts) i := by
  rintro i ⟨s, hs1, hgo⟩
  induction hgo with
  | refl => exact ⟨hs1.1, hstart s hs1⟩
  | tail _ e ih =>
   obtain ⟨h1, j, h2, h3⟩ := ih
   exact ⟨e.1, hstep _ _ j h1 h2 h3 e⟩
 let Q : Nat → PO → Prop := fun j o => ∃ i, namL (ppL ts) i = namL (ppL ts') j ∧ ReachG (ppL ts) (askN needs') ws i ∧ takenL (ppL ts) ws i = some o
 obtain ⟨ws', hw', hq⟩ := build_ws (T := ppL ts') (asked := askN needs') Q (fun j hj o ⟨i, h1, h2, h3⟩ => hin i j o (hreach i h2).1 hj h1 h3) (fun j o o' ⟨i, h1, h2, h3⟩ ⟨i', h1', h2', h3'⟩ => by
  have := hT.inj (hreach i h2).1 (hreach i' h2').1 (h1.trans h1'.symm)
  subst this
  rw [h3] at h3'; injection h3') (fun j hj ha => by
  have hm := askN_iff.1 ha
  have hm2 : namL (ppL ts') j ∈ needs.map wname := by
   obtain ⟨x, hx, he⟩ := List.mem_map.1 hm
   exact List.mem_map.2 ⟨x, hs x hx, he⟩
  obtain ⟨i, hi, hn⟩ : ∃ i, i < (ppL ts).length ∧ namL (ppL ts) i = namL (ppL ts') j := mem_nam (by rw [ppL_names]; exact (h.just _).2 ⟨_, hm2, .refl _⟩)
  have hwi := List.getElem?_eq_getElem (show i < ws.length by omega)
  obtain ⟨a, hae⟩ : ∃ a, ws[i]'(by omega) = a := ⟨_, rfl⟩
  rw [hae] at hwi
  have hki : (ksOf (askN needs) (ppL ts))[i]? = some ((ppL ts)[i].os.length + 0) := by
   unfold ksOf
   rw [List.getElem?_map, List.getElem?_eq_getElem hi]
   have : askN needs (ppL ts)[i].nm = true := by rw [← namL_at hi, hn]; exact askN_iff.2 hm2
   simp only [Option.map_some, this, if_true]
  have hal := hw.2 i a _ hwi hki
  have htk : takenL (ppL ts) ws i = some ((ppL ts)[i].os[a]'(by omega)) := by
   unfold takenL
   rw [List.getElem?_eq_getElem hi, hwi]
   show (ppL ts)[i].os[a]? = _
   rw [List.getElem?_eq_getElem (by omega)]
  exact ⟨_, i, hn, ⟨i, ⟨hi, by rw [hn]; exact ha, _, htk⟩, .refl _⟩, htk⟩)
 refine ⟨ws', hw', (fits_closed hT').2 ?_, ?_⟩
 ·intro j hj o ho n hn
  obtain ⟨i, h1, h2, h3⟩ := (hq j hj o).1 ho
  obtain ⟨k, hk, hkn, hm⟩ := hcl i (hreach i h2).1 o h3 n hn
  rcases hp : takenL (ppL ts) ws k with _ | p
  ·rw [hp] at hm; cases hm
  ·have hst : StepG (ppL ts) ws i k := ⟨hk, ⟨p, hp⟩, o, h3, n, hn, hkn.symm⟩
   have hrk : ReachG (ppL ts) (askN needs') ws k := by
    obtain ⟨s, hs1, hgo⟩ := h2
    exact ⟨s, hs1, hgo.tail hst⟩
   obtain ⟨_, j', hj', hn'⟩ := hreach k hrk
   refine ⟨j', hj', hn'.trans hkn, ?_⟩
   rw [(hq j' hj' p).2 ⟨k, hn'.symm, hrk, hp⟩]
   rw [hp] at hm; exact hm
 ·have key : ∀ i, ReachG (ppL ts) (askN needs') ws i → ∀ j, j < (ppL ts').length → namL (ppL ts') j = namL (ppL ts) i → ReachG (ppL ts') (askN needs') ws' j := by
   rintro i ⟨s, hs1, hgo⟩
   induction hgo with
   | refl =>
    intro j hj hn
    obtain ⟨h1, h2, p, hp⟩ := hs1
    exact ⟨j, ⟨hj, by rw [hn]; exact h2, p, (hq j hj p).2 ⟨s, hn.symm, ⟨s, ⟨h1, h2, p, hp⟩, .refl _⟩, hp⟩⟩, .refl _⟩
   | tail hgo e ih =>
    rename_i b c
    intro j hj hn
    obtain ⟨_, j0, hj0, hn0⟩ := hreach b ⟨s, hs1, hgo⟩
    obtain ⟨s', hs', hgo'⟩ := ih j0 hj0 hn0
    have hrc : ReachG (ppL ts) (askN needs') ws c := ⟨s, hs1, hgo.tail e⟩
    obtain ⟨hk, ⟨p, hp⟩, o, ho, n, hnm, hne⟩ := e
    exact ⟨s', hs', hgo'.tail ⟨hj, ⟨p, (hq j hj p).2 ⟨c, hn.symm, hrc, hp⟩⟩, o, (hq j0 hj0 o).2 ⟨b, hn0.symm, ⟨s, hs1, hgo⟩, ho⟩, n, hnm, hne.trans hn.symm⟩⟩
  intro j hj p hp
  obtain ⟨i, h1, h2, h3⟩ := (hq j hj p).1 hp
  exact key i h2 j hj h1.symm
end Go

namespace Go
open Go.RowKit
/-- picks that go together -/
def HoldsIs (T : List PP) (asked : Nam → Bool) (picks : List Pik) : Prop := ∃ ws, IsW (ksOf asked T) ws ∧ GoodW T asked ws ∧ picks.Perm (picksL T ws)
/-- each package has but one choice of a version -/
def TabV (T : List PP) : Prop := ∀ p ∈ T, p.os.Pairwise fun x y => x.v ≠ y.v
theorem table_V {lock : List Pik} {needs : List (Want × Value)} {ps ts : List DPack} (h : TableIs lock needs ps ts) : TabV (ppL ts) := by
 intro p hp
 obtain ⟨t, ht, rfl⟩ := List.mem_map.1 hp
 obtain ⟨out, hc, hs⟩ := h.each t ht
 show (t.os.map DOff.po).Pairwise _
 rw [← simOs_po hs, List.pairwise_map]
 have h1 := hc.1.symm
 exact (h1.pairwise_iff (fun h => fun e => h e.symm)).1 (sel_ok (lock := lock) (nm := t.name) (needs := needs) (os := (findP ps t.name).os)).2
theorem perm_of_sub {α : Type} [DecidableEq α] : ∀ {F l : List α}, F.Nodup → (∀ x ∈ F, x ∈ l) → l.length ≤ F.length → l.Perm F
 | [], l, _, _, h => by
  have : l = [] := List.eq_nil_of_length_eq_zero (Nat.le_zero.1 h)
  subst this; exact .refl _
 | x :: F, l, hn, hs, hl => by
  obtain ⟨h1, h2⟩ := List.nodup_cons.1 hn
  have hx := hs x List.mem_cons_self
  refine (List.perm_cons_erase hx).trans (.cons _ (perm_of_sub h2 (fun y hy => ?_) ?_))
  ·refine (List.mem_erase_of_ne ?_).2 (hs y (List.mem_cons_of_mem _ hy))
   intro e; subst e; exact h1 hy
  ·rw [List.length_erase_of_mem hx]
   rw [List.length_cons] at hl; omega
instance : DecidableEq V4 := fun x y => decidable_of_iff (V4.same x y = true) (V4.same_eq x y)
instance : DecidableEq Pik := fun x y => decidable_of_iff (x.name = y.name ∧ x.v = y.v) (by obtain ⟨a, b⟩ := x; obtain ⟨c, d⟩ := y; simp)
theorem pickAt_some {T : List PP} {ws : List Nat} {i : Nat} {x : Pik} : pickAt T ws i = some x ↔ ∃ o, takenL T ws i = some o ∧ x = ⟨S (namL T i), o.v⟩ := by
 unfold pickAt
 cases h : takenL T ws i with
 | none => simp
 | some o =>
  simp only [Option.map_some, Option.some.injEq]
  constructor
  ·intro e; exact ⟨o, rfl, e.symm⟩
  ·rintro ⟨o', rfl, e⟩; exact e.symm
theorem mem_picksL {T : List PP} {ws : List Nat} {x : Pik} : x ∈ picksL T ws ↔ ∃ i, i < T.length ∧ ∃ o, takenL T ws i = some o ∧ x = ⟨S (namL T i), o.v⟩ := by
 unfold picksL picksTo
 rw [List.mem_filterMap]
 constructor
 ·rintro ⟨i, hi, h⟩; exact ⟨i, List.mem_range.1 hi, pickAt_some.1 h⟩
 ·rintro ⟨i, hi, h⟩; exact ⟨i, List.mem_range.2 hi, pickAt_some.2 h⟩
/-- the names of picks rise -/
theorem picksL_names {T : List PP} (hT : TabW T) (ws : List Nat) : (picksL T ws).Pairwise fun x y => x.nm < y.nm := by
 unfold picksL picksTo
 rw [List.pairwise_filterMap]
 refine List.Pairwise.imp_of_mem ?_ (List.pairwise_lt_range (n := T.length))
 intro i k hi hk hik x hx y hy
 obtain ⟨o, _, rfl⟩ := pickAt_some.1 hx
 obtain ⟨p, _, rfl⟩ := pickAt_some.1 hy
 exact hT.lt hik (List.mem_range.1 hk)
theorem picksL_apart {T : List PP} (hT : TabW T) (ws : List Nat) : (picksL T ws).Pairwise fun x y => x.name ≠ y.name :=
 (picksL_names hT ws).imp fun {x y} h e => by
  have : x.nm = y.nm := by unfold Pik.nm; rw [e]
  rw [this] at h; exact List.lt_irrefl _ h
theorem nodup_of_apart {l : List Pik} (h : l.Pairwise fun x y => x.name ≠ y.name) : l.Nodup := h.imp fun h e => h (by rw [e])
theorem vers_inj {os : List PO} (h : os.Pairwise fun x y => x.v ≠ y.v) {i j : Nat} (hi : i < os.length) (hj : j < os.length) (e : os[i].v = os[j].v) : i = j := by
 rcases Nat.lt_trichotomy i j with hij | hij | hij
 ·exact absurd e (List.pairwise_iff_getElem.1 h i j hi hj hij)
 ·exact hij
 ·exact absurd e.symm (List.pairwise_iff_getElem.1 h j i hj hi hij)
theorem filterMap_len {α β : Type} {f : α → Option β} {g : α → Bool} : ∀ (l : List α), (∀ x ∈ l, (f x).isSome = g x) → (l.filterMap f).length = (l.filter g).length
 | [], _ => rfl
 | x :: l, h => by
  have ih := filterMap_len l fun y hy => h y (List.mem_cons_of_mem _ hy)
  have hx := h x List.mem_cons_self
  rw [List.filterMap_cons, List.filter_cons]
  cases hf : f x with
  | none => rw [hf] at hx; simp only [Option.isSome_none] at hx; rw [← hx]; simpa using ih
  | some b => rw [hf] at hx; simp only [Option.isSome_some] at hx; rw [← hx]; simpa using ih
/-! the program's look -/
def findPk (picks : List Pik) (nm : ByteArray) : Option Pik := picks.find? fun x => decide (x.name = nm)
def idxV (os : List PO) (v : V4) : Option Nat := os.findIdx? fun o => V4.same v o.v
def wayP (asked : Nam → Bool) (picks : List Pik) (p : PP) : Option Nat := match findPk picks (S p.nm) with
 | some x => idxV p.os x.v
 | none => if asked p.nm = true then none else some p.os.length
def cntTo (T : List PP) (picks : List Pik) (k : Nat) : Nat := ((List.range k).filter fun i => (findPk picks (S (namL T i))).isSome).length
theorem cntTo_succ (T : List PP) (picks : List Pik) (k : Nat) : cntTo T picks (k + 1) = cntTo T picks k + if (findPk picks (S (namL T k))).isSome = true then 1 else 0 := by
 unfold cntTo
 rw [List.range_succ, List.filter_append, List.length_append, List.filter_cons, List.filter_nil]
 split <;> rfl
theorem cntTo_le (T : List PP) (picks : List Pik) (k : Nat) : cntTo T picks k ≤ k := by
 unfold cntTo
 exact Nat.le_trans (List.length_filter_le _ _) (by simp)
theorem findPk_some {picks : List Pik} {nm : ByteArray} {x : Pik} (h : findPk picks nm = some x) : x ∈ picks ∧ x.name = nm :=
 ⟨List.mem_of_find?_eq_some h, by have := List.find?_some h; simpa using this⟩
theorem findPk_none {picks : List Pik} {nm : ByteArray} (h : findPk picks nm = none) : ∀ x ∈ picks, x.name ≠ nm := by
 intro x hx; have := List.find?_eq_none.1 h x hx; simpa using this
theorem idxV_some {os : List PO} {v : V4} {a : Nat} (h : idxV os v = some a) : ∃ h : a < os.length, os[a].v = v := by
 obtain ⟨h1, h2, _⟩ := List.findIdx?_eq_some_iff_getElem.1 h
 exact ⟨h1, ((V4.same_eq _ _).1 h2).symm⟩
theorem idxV_of {os : List PO} (hv : os.Pairwise fun x y => x.v ≠ y.v) {a : Nat} (h : a < os.length) : idxV os os[a].v = some a := by
 refine List.findIdx?_eq_some_iff_getElem.2 ⟨h, (V4.same_eq _ _).2 rfl, fun j hj => ?_⟩
 intro hs
 have := vers_inj hv h (by omega) ((V4.same_eq _ _).1 hs)
 omega
theorem ksOf_at {asked : Nam → Bool} {T : List PP} {i : Nat} (hi : i < T.length) : (ksOf asked T)[i]? = some (T[i].os.length + if asked T[i].nm = true then 0 else 1) := by
 unfold ksOf; rw [List.getElem?_map, List.getElem?_eq_getElem hi]; rfl
theorem takenL_at {T : List PP} {ws : List Nat} {i a : Nat} (hi : i < T.length) (ha : ws[i]? = some a) : takenL T ws i = T[i].os[a]? := by
 unfold takenL; rw [List.getElem?_eq_getElem hi, ha]; rfl
/-- of picks that go together the program finds the assignment -/
theorem holds_prog {T : List PP} {asked : Nam → Bool} {picks : List Pik} (hT : TabW T) (hV : TabV T) (h : HoldsIs T asked picks) :
  ∃ ws, IsW (ksOf asked T) ws ∧ GoodW T asked ws ∧ (∀ i (h : i < T.length), wayP asked picks T[i] = ws[i]?) ∧ cntTo T picks T.length = picks.length := by
 obtain ⟨ws, hw, hg, hp⟩ := h
 have hlen : ws.length = T.length := by rw [hw.1]; unfold ksOf; rw [List.length_map]
 have hback : ∀ i, i < T.length → ∀ x, findPk picks (S (namL T i)) = some x → ∃ o, takenL T ws i = some o ∧ x = ⟨S (namL T i), o.v⟩ := by
  intro i hi x hx
  obtain ⟨h1, h2⟩ := findPk_some hx
  obtain ⟨i', hi', o, ho, he⟩ := mem_picksL.1 (hp.mem_iff.1 h1)
  have : namL T i' = namL T i := by
   rw [he] at h2
   exact S_inj h2
  have := hT.inj hi' hi this
  subst this
  exact ⟨o, ho, he⟩
 have hsome : ∀ i, i < T.length → (findPk picks (S (namL T i))).isSome = (pickAt T ws i).isSome := by
  intro i hi
  rcases hf : findPk picks (S (namL T i)) with _ | x
  ·rcases hq : pickAt T ws i with _ | y
   ·rfl
   ·obtain ⟨o, ho, he⟩ := pickAt_some.1 hq
    have := findPk_none hf y (hp.mem_iff.2 (mem_picksL.2 ⟨i, hi, o, ho, he⟩))
    rw [he] at this; exact absurd rfl this
  ·obtain ⟨o, ho, he⟩ := hback i hi x hf
   rw [pickAt_some.2 ⟨o, ho, he⟩]
 refine ⟨ws, hw, hg, fun i hi => ?_, ?_⟩
 ·have hwi := List.getElem?_eq_getElem (show i < ws.length by omega)
  obtain ⟨a, hae⟩ : ∃ a, ws[i]'(by omega) = a := ⟨_, rfl⟩
  rw [hae] at hwi
  have hnm := namL_at hi
  rw [hwi]
  unfold wayP
  rw [← hnm]
  have htk := takenL_at hi hwi
  rcases hf : findPk picks (S (namL T i)) with _ | x
  ·have h1 := hsome i hi
   rw [hf] at h1
   have h2 : takenL T ws i = none := by
    cases h : takenL T ws i with
    | none => rfl
    | some o => unfold pickAt at h1; rw [h] at h1; cases h1
   rw [h2] at htk
   have h3 := List.getElem?_eq_none_iff.1 htk.symm
   have h4 := hw.2 i a _ hwi (ksOf_at hi)
   rw [← hnm] at h4
   have h5 : ¬ asked (namL T i) = true := fun h => by rw [if_pos h] at h4; omega
   rw [if_neg h5] at h4
   show (if asked (namL T i) = true then none else some T[i].os.length) = some a
   rw [if_neg h5]; congr 1; omega
  ·obtain ⟨o, ho, he⟩ := hback i hi x hf
   rw [ho] at htk
   obtain ⟨h3, h4⟩ := List.getElem?_eq_some_iff.1 htk.symm
   show idxV T[i].os x.v = some a
   have : x.v = T[i].os[a].v := by rw [he, h4]
   rw [this]
   exact idxV_of (hV _ (List.getElem_mem hi)) h3
 ·rw [hp.length_eq]
  unfold cntTo picksL picksTo
  exact (filterMap_len _ fun i hi => (hsome i (List.mem_range.1 hi)).symm).symm
theorem prog_holds {T : List PP} {asked : Nam → Bool} {picks : List Pik} (hT : TabW T) {ws : List Nat} (hl : ws.length = T.length) (hg : GoodW T asked ws)
  (hw : ∀ i (h : i < T.length), wayP asked picks T[i] = ws[i]?) (hc : cntTo T picks T.length = picks.length) : HoldsIs T asked picks := by
 have hat : ∀ i (hi : i < T.length), ∃ a, ws[i]? = some a ∧ a < T[i].os.length + (if asked T[i].nm = true then 0 else 1) ∧ pickAt T ws i = findPk picks (S (namL T i)) := by
  intro i hi
  have hwi := List.getElem?_eq_getElem (show i < ws.length by omega)
  obtain ⟨a, hae⟩ : ∃ a, ws[i]'(by omega) = a := ⟨_, rfl⟩
  rw [hae] at hwi
  have h1 := hw i hi
  rw [hwi] at h1
  have htk := takenL_at hi hwi
  unfold wayP at h1
  rw [namL_at hi]
  rcases hf : findPk picks (S T[i].nm) with _ | x
  ·rw [hf] at h1
   simp only at h1
   split at h1
   ·cases h1
   ·rename_i hna
    injection h1 with h1
    subst h1
    rw [List.getElem?_eq_none (Nat.le_refl _)] at htk
    refine ⟨_, hwi, by rw [if_neg hna]; omega, ?_⟩
    unfold pickAt; rw [htk]; rfl
  ·rw [hf] at h1
   obtain ⟨h3, h4⟩ := idxV_some h1
   rw [List.getElem?_eq_getElem h3] at htk
   refine ⟨_, hwi, by omega, ?_⟩
   rw [pickAt_some.2 ⟨_, htk, rfl⟩]
   obtain ⟨_, h5⟩ := findPk_some hf
   obtain ⟨xn, xv⟩ := x
   simp only at h4 h5
   rw [h4, h5, namL_at hi]
 refine ⟨ws, ⟨by rw [hl]; unfold ksOf; rw [List.length_map], fun i a k h1 h2 => ?_⟩, hg, ?_⟩
 ·have hi : i < T.length := by rw [← hl]; exact (List.getElem?_eq_some_iff.1 h1).1
  obtain ⟨a', h3, h4, _⟩ := hat i hi
  rw [h3] at h1
  injection h1 with h1
  subst h1
  rw [ksOf_at hi] at h2
  injection h2 with h2
  subst h2
  exact h4
 ·refine perm_of_sub (nodup_of_apart (picksL_apart hT ws)) (fun x hx => ?_) ?_
  ·obtain ⟨i, hi, o, ho, he⟩ := mem_picksL.1 hx
   obtain ⟨_, _, _, h5⟩ := hat i hi
   rw [pickAt_some.2 ⟨o, ho, he⟩] at h5
   exact (findPk_some h5.symm).1
  ·rw [← hc]
   unfold cntTo picksL picksTo
   rw [filterMap_len _ fun i hi => by obtain ⟨_, _, _, h5⟩ := hat i (List.mem_range.1 hi); rw [h5]]
   exact Nat.le_refl _
/-! the reference's look -/
end Go

namespace Go
open Go.RowKit
theorem needErr_val (needs : List (Want × Value)) : needErr needs = 0 ∨ needErr needs = 50 ∨ needErr needs = 110 := by
 induction needs with
 | nil => exact .inl rfl
 | cons x l ih =>
  unfold needErr
  split
  ·exact ih
  ·unfold wantErr rangeErr
   split
   ·split
    ·exact .inl rfl
    ·exact .inr (.inl rfl)
   ·exact .inr (.inr rfl)
theorem SolIs.err {lock : List Pik} {needs : List (Want × Value)} {ps : List DPack} {budget : Int} {r : List Pik} {n : Nat} {e : Int} (h : SolIs lock needs ps budget r n e) (he : e ≠ 0) : r = [] ∧ (e = 251 → (n : Int) = budget) := by
 rcases h with ⟨h1, h2, h3, h4⟩ | ⟨h1, h2, h3, h4, h5⟩ | ⟨h1, h2, h3, ts, ht, ws, hw, hr⟩
 ·refine ⟨h2, fun h => ?_⟩
  have := needErr_val needs
  omega
 ·exact ⟨h3, fun h => by omega⟩
 ·rcases hw with ⟨h, _⟩ | ⟨rfl, rfl, h6, h7, h8⟩ | ⟨rfl, rfl, h6, h7, h8⟩
  ·exact absurd h he
  ·exact ⟨hr, fun h => by cases h⟩
  ·exact ⟨hr, fun _ => by omega⟩
theorem SolIs.ok {lock : List Pik} {needs : List (Want × Value)} {ps : List DPack} {budget : Int} {r : List Pik} {n : Nat} (h : SolIs lock needs ps budget r n 0) :
  1 ≤ n ∧ (n : Int) ≤ budget ∧ ∃ ts, TableIs lock needs ps ts ∧ ∃ ws, IsW (ksOf (askN needs) (ppL ts)) ws ∧ GoodW (ppL ts) (askN needs) ws ∧ r = picksL (ppL ts) ws := by
 rcases h with ⟨h1, h2, h3, h4⟩ | ⟨h1, h2, h3, h4, h5⟩ | ⟨h1, h2, h3, ts, ht, ws, hw, hr⟩
 ·exact absurd h4.symm h1
 ·cases h5
 ·rcases hw with ⟨_, m, hm, rfl, rfl, hB, hg, _⟩ | ⟨h, _⟩ | ⟨h, _⟩
  ·exact ⟨by omega, by omega, ts, ht, _, mem_allW.1 (List.getElem_mem hm), hg, hr⟩
  ·cases h
  ·cases h
theorem SolIs.holds {lock : List Pik} {needs : List (Want × Value)} {ps ts : List DPack} {budget : Int} {r : List Pik} {n : Nat} (h : SolIs lock needs ps budget r n 0) (ht : TableIs lock needs ps ts) : HoldsIs (ppL ts) (askN needs) r := by
 obtain ⟨_, _, ts', ht', ws, hw, hg, rfl⟩ := h.ok
 rw [tables_pp ht ht']
 exact ⟨ws, hw, hg, .refl _⟩
theorem SolIs.first {lock : List Pik} {needs : List (Want × Value)} {ps ts : List DPack} {budget : Int} {r picks : List Pik} {n : Nat} {e : Int} (h : SolIs lock needs ps budget r n e) (ht : TableIs lock needs ps ts) (hh : HoldsIs (ppL ts) (askN needs) picks) : e ≠ 250 := by
 rcases h with ⟨h1, h2, h3, h4⟩ | ⟨h1, h2, h3, h4, h5⟩ | ⟨h1, h2, h3, ts', ht', ws, hw, hr⟩
 ·have := needErr_val needs; omega
 ·omega
 ·rcases hw with ⟨h, _⟩ | ⟨_, _, _, _, hno⟩ | ⟨h, _⟩
  ·omega
  ·obtain ⟨ws', hw', hg', _⟩ := hh
   rw [tables_pp ht ht'] at hw' hg'
   obtain ⟨j, hj, e⟩ := List.getElem_of_mem (mem_allW.2 hw')
   exact absurd (by rw [e]; exact hg') (hno j hj)
  ·omega
/-- each pick is an offer that may be -/
theorem SolIs.good {lock : List Pik} {needs : List (Want × Value)} {ps : List DPack} {budget : Int} {r : List Pik} {n : Nat} (h : SolIs lock needs ps budget r n 0) : ∀ x ∈ r, ∃ o ∈ (findP ps x.name).os, o.v = x.v ∧ (!o.y || lockedB lock x.name x.v) = true := by
 obtain ⟨_, _, ts, ht, ws, hw, hg, rfl⟩ := h.ok
 intro x hx
 obtain ⟨i, hi, o, ho, rfl⟩ := mem_picksL.1 hx
 have hom : o ∈ (ppL ts)[i].os := by
  unfold takenL at ho
  rw [List.getElem?_eq_getElem hi] at ho
  rcases ha : ws[i]? with _ | a
  ·rw [ha] at ho; cases ho
  ·rw [ha] at ho; exact List.mem_of_getElem? ho
 obtain ⟨q, hq, rfl⟩ := (table_po ht hi o).1 hom
 have hf := sel_ok.1 q hq
 obtain ⟨⟨_, h1⟩, _⟩ := fit_split.1 hf
 rcases selL_sub _ _ hq with h | h
 ·cases h
 ·exact ⟨q, h, rfl, h1⟩
theorem SolIs.rise {lock : List Pik} {needs : List (Want × Value)} {ps : List DPack} {budget : Int} {r : List Pik} {n : Nat} (h : SolIs lock needs ps budget r n 0) : r.Pairwise fun x y => x.nm < y.nm := by
 obtain ⟨_, _, ts, ht, ws, hw, hg, rfl⟩ := h.ok
 exact picksL_names (table_W ht) ws
theorem SolIs.meets {lock : List Pik} {needs : List (Want × Value)} {ps : List DPack} {budget : Int} {r : List Pik} {n : Nat} (h : SolIs lock needs ps budget r n 0) : ∀ d ∈ needs, ∃ x ∈ r, x.name = S d.1.name ∧ meetsR x.v d.1.bs = true := by
 obtain ⟨_, _, ts, ht, ws, hw, hg, rfl⟩ := h.ok
 intro d hd
 have hm : wname d ∈ needs.map wname := List.mem_map.2 ⟨d, hd, rfl⟩
 obtain ⟨i, hi, hn⟩ : ∃ i, i < (ppL ts).length ∧ namL (ppL ts) i = wname d := mem_nam (by rw [ppL_names]; exact (ht.just _).2 ⟨_, hm, .refl _⟩)
 have hlen : ws.length = (ppL ts).length := by rw [hw.1]; unfold ksOf; rw [List.length_map]
 have hwi := List.getElem?_eq_getElem (show i < ws.length by omega)
 obtain ⟨a, hae⟩ : ∃ a, ws[i]'(by omega) = a := ⟨_, rfl⟩
 rw [hae] at hwi
 have h1 := hw.2 i a _ hwi (ksOf_at hi)
 rw [← namL_at hi, hn, if_pos (askN_iff.2 hm)] at h1
 have htk := takenL_at hi hwi
 rw [List.getElem?_eq_getElem (by omega)] at htk
 obtain ⟨q, hq, hqe⟩ := (table_po ht hi _).1 (List.getElem_mem (show a < (ppL ts)[i].os.length by omega))
 refine ⟨_, mem_picksL.2 ⟨i, hi, _, htk, rfl⟩, by rw [hn]; rfl, ?_⟩
 have hf := (fit_split.1 (sel_ok.1 q hq)).2 d hd
 rw [← hqe]
 show meetsR q.v d.1.bs = true
 unfold needOk at hf
 rw [hn, S_data] at hf
 simpa [wname] using hf
/-- a greater budget -/
theorem SolTold.more {g : List Nat → Prop} {l : List (List Nat)} {B M : Nat} {r r' : Option (List Nat)} {n k : Nat} {e f : Int} (h : SolTold g l B r n e) (h' : SolTold g l (B + M) r' k f) : (e ≠ 251 → r = r' ∧ n = k ∧ e = f) ∧ (e = 251 → f = 0 → B < k) ∧ (e = 251 → B < l.length) ∧ (f = 250 → k = l.length) := by
 refine ⟨fun he => ?_, fun he hf => ?_, fun he => ?_, fun hf => ?_⟩
 ·refine SolTold.uniq (B := B + M) ?_ h'
  rcases h with ⟨rfl, m, hm, rfl, rfl, hB, hg, ha⟩ | ⟨rfl, rfl, rfl, hB, ha⟩ | ⟨h, _⟩
  ·exact .inl ⟨rfl, m, hm, rfl, rfl, by omega, hg, ha⟩
  ·exact .inr (.inl ⟨rfl, rfl, rfl, by omega, ha⟩)
  ·exact absurd h he
 ·rcases h with ⟨h, _⟩ | ⟨h, _⟩ | ⟨_, _, _, _, ha⟩
  ·omega
  ·omega
  ·rcases h' with ⟨_, m, hm, _, rfl, _, hg, _⟩ | ⟨h, _⟩ | ⟨h, _⟩
   ·rcases Nat.lt_or_ge m B with hmB | hmB
    ·exact absurd hg (ha m hm hmB)
    ·omega
   ·omega
   ·omega
 ·rcases h with ⟨h, _⟩ | ⟨h, _⟩ | ⟨_, _, _, h, _⟩
  ·omega
  ·omega
  ·exact h
 ·rcases h' with ⟨h, _⟩ | ⟨_, _, h, _⟩ | ⟨h, _⟩
  ·omega
  ·exact h
  ·omega
theorem SolIs.budget {lock : List Pik} {needs : List (Want × Value)} {ps ts : List DPack} {B M : Int} {r r' : List Pik} {n k : Nat} {e f : Int} (hB : 1 ≤ B) (hM : 1 ≤ M) (hB2 : B ≤ 20000) (hM2 : M ≤ 20000) (h : SolIs lock needs ps B r n e) (h' : SolIs lock needs ps (B + M) r' k f) (ht : TableIs lock needs ps ts) :
  (e ≠ 251 → r = r' ∧ n = k ∧ e = f) ∧ (e = 251 → f = 0 → B < (k : Int)) ∧ (needErr needs ≠ 0 → e = f) ∧ (needErr needs = 0 → (B < countN needs ts 50000 ∨ e ≠ 251) ∧ (f ≠ 250 ∨ (k : Int) = countN needs ts 50000)) := by
 have hc := count_all needs ts 50000
 rw [ks_ways] at hc
 rcases h with ⟨h1, h2, h3, h4⟩ | ⟨h1, h2, h3, h4, h5⟩ | ⟨h1, h2, h3, ts1, ht1, ws, hw, hr⟩
 ·rcases h' with ⟨g1, g2, g3, g4⟩ | ⟨g1, g2, g3, g4, g5⟩ | ⟨g1, g2, g3, ts', ht', ws', hw', hr'⟩
  ·refine ⟨fun _ => ⟨by rw [h2, g2], by omega, by omega⟩, fun he hf => by omega, fun _ => by omega, fun h => absurd h h1⟩
  ·exact absurd g1 h1
  ·exact absurd g1 h1
 ·omega
 ·rcases h' with ⟨g1, g2, g3, g4⟩ | ⟨g1, g2, g3, g4, g5⟩ | ⟨g1, g2, g3, ts', ht', ws', hw', hr'⟩
  ·exact absurd h1 g1
  ·omega
  ·rw [tables_pp ht1 ht] at hw hr
   rw [tables_pp ht' ht] at hw' hr'
   have hBM : (B + M).toNat = B.toNat + M.toNat := by omega
   rw [hBM] at hw'
   obtain ⟨q1, q2, q3, q4⟩ := hw.more hw'
   rw [allW_len] at q3 q4
   refine ⟨fun he => ?_, fun he hf => ?_, fun h => absurd h1 h, fun _ => ⟨?_, ?_⟩⟩
   ·obtain ⟨e1, e2, e3⟩ := q1 he
    exact ⟨by rw [hr, hr', e1], e2, e3⟩
   ·have := q2 he hf; omega
   ·by_cases he : e = 251
    ·left
     have := q3 he
     rw [show ((50000 : Nat) : Int) = 50000 from rfl] at hc
     rw [hc]; omega
    ·exact .inr he
   ·by_cases hf : f = 250
    ·right
     have h9 := q4 hf
     have h10 : k ≤ B.toNat + M.toNat := by
      rcases hw' with ⟨h, _⟩ | ⟨_, _, _, h, _⟩ | ⟨h, _⟩ <;> omega
     rw [show ((50000 : Nat) : Int) = 50000 from rfl] at hc
     rw [hc]; omega
    ·exact .inl hf
/-! blame -/
def SolE (lock : List Pik) (needs : List (Want × Value)) (ps : List DPack) (budget : Int) (e : Int) : Prop := ∃ r n, SolIs lock needs ps budget r n e
theorem SolE.uniq {lock : List Pik} {needs : List (Want × Value)} {ps : List DPack} {budget e e' : Int} (h : SolE lock needs ps budget e) (h' : SolE lock needs ps budget e') : e = e' := by
 obtain ⟨_, _, h⟩ := h
 obtain ⟨_, _, h'⟩ := h'
 exact (h.uniq h').2.2
def BlameIs (lock : List Pik) (needs : List (Want × Value)) (ps : List DPack) (budget : Int) (k : Nat) (e : Int) : Prop :=
 (needErr needs ≠ 0 ∧ k = 0 ∧ e = needErr needs) ∨
 (needErr needs = 0 ∧ ∃ j, (∀ i, i < j → SolE lock (needs.take i) ps budget 0) ∧
  ((j ≤ needs.length ∧ SolE lock (needs.take j) ps budget 250 ∧ k = j ∧ e = 0) ∨ (j ≤ needs.length ∧ e ≠ 0 ∧ e ≠ 250 ∧ SolE lock (needs.take j) ps budget e ∧ k = 0) ∨ (j = needs.length + 1 ∧ k = 0 ∧ e = 0)))
theorem BlameIs.uniq {lock : List Pik} {needs : List (Want × Value)} {ps : List DPack} {budget : Int} {k k' : Nat} {e e' : Int} (h : BlameIs lock needs ps budget k e) (h' : BlameIs lock needs ps budget k' e') : k = k' ∧ e = e' := by
 rcases h with ⟨h1, h2, h3⟩ | ⟨h1, j, hj, h2⟩ <;> rcases h' with ⟨g1, g2, g3⟩ | ⟨g1, j', hj', g2⟩
 ·exact ⟨by omega, by omega⟩
 ·exact absurd g1 h1
 ·exact absurd h1 g1
 ·have e1 : ¬ j < j' := fun hlt => by
   have h0 := hj' j hlt
   rcases h2 with ⟨_, h, _⟩ | ⟨_, h3, _, h, _⟩ | ⟨h, _⟩
   ·have := h0.uniq h; omega
   ·exact h3 (h.uniq h0)
   ·rcases g2 with ⟨g, _⟩ | ⟨g, _⟩ | ⟨g, _⟩ <;> omega
  have e2 : ¬ j' < j := fun hlt => by
   have h0 := hj j' hlt
   rcases g2 with ⟨_, h, _⟩ | ⟨_, h3, _, h, _⟩ | ⟨h, _⟩
   ·have := h0.uniq h; omega
   ·exact h3 (h.uniq h0)
   ·rcases h2 with ⟨g, _⟩ | ⟨g, _⟩ | ⟨g, _⟩ <;> omega
  have e3 : j = j' := by omega
  subst e3
  rcases h2 with ⟨a, b, c, d⟩ | ⟨a, b, c, d, f⟩ | ⟨a, b, c⟩ <;> rcases g2 with ⟨a', b', c', d'⟩ | ⟨a', b', c', d', f'⟩ | ⟨a', b', c'⟩
  ·exact ⟨by omega, by omega⟩
  ·exact absurd (d'.uniq b) c'
  ·omega
  ·exact absurd (d.uniq b') c
  ·exact ⟨by omega, d.uniq d'⟩
  ·omega
  ·omega
  ·omega
  ·exact ⟨by omega, by omega⟩
theorem SolE.budget {lock : List Pik} {needs : List (Want × Value)} {ps : List DPack} {budget : Int} (h : SolE lock needs ps budget 250) : needErr needs = 0 ∧ 1 ≤ budget ∧ budget ≤ 1000000 := by
 obtain ⟨r, n, h⟩ := h
 rcases h with ⟨h1, h2, h3, h4⟩ | ⟨h1, h2, h3, h4, h5⟩ | ⟨h1, h2, h3, _⟩
 ·have := needErr_val needs; omega
 ·omega
 ·exact ⟨h1, h2, h3⟩
/-- fewer needs cannot fail where more do not -/
theorem SolE.fewer {lock : List Pik} {needs needs' : List (Want × Value)} {ps : List DPack} {budget b' : Int} (hs : ∀ x ∈ needs', x ∈ needs) (h : SolE lock needs ps budget 0) (h' : SolE lock needs' ps b' 250) : False := by
 obtain ⟨r, n, h⟩ := h
 obtain ⟨_, _, ts, ht, ws, hw, hg, _⟩ := h.ok
 obtain ⟨r', n', h'⟩ := h'
 rcases h' with ⟨h1, h2, h3, h4⟩ | ⟨h1, h2, h3, h4, h5⟩ | ⟨h1, h2, h3, ts', ht', ws', hw', _⟩
 ·have := needErr_val needs'; omega
 ·omega
 ·obtain ⟨us, hus, hgu⟩ := good_fewer ht ht' hs hw hg
  rcases hw' with ⟨h, _⟩ | ⟨_, _, _, _, hno⟩ | ⟨h, _⟩
  ·omega
  ·obtain ⟨j, hj, e⟩ := List.getElem_of_mem (mem_allW.2 hus)
   exact absurd (by rw [e]; exact hgu) (hno j hj)
  ·omega
/-- no needs at all go together -/
theorem SolE.none {lock : List Pik} {ps : List DPack} {budget : Int} (h : SolE lock [] ps budget 250) : False := by
 obtain ⟨r', n', h'⟩ := h
 rcases h' with ⟨h1, h2, h3, h4⟩ | ⟨h1, h2, h3, h4, h5⟩ | ⟨h1, h2, h3, ts', ht', ws', hw', _⟩
 ·have := needErr_val []; omega
 ·omega
 ·have hts : ts' = [] := by
   cases ts' with
   | nil => rfl
   | cons t ts' =>
    obtain ⟨s, hs, _⟩ := (ht'.just (pname t)).1 (by simp)
    simp at hs
  subst hts
  rcases hw' with ⟨h, _⟩ | ⟨_, _, _, _, hno⟩ | ⟨h, _⟩
  ·omega
  ·exact hno 0 (by decide) ⟨fun i hi => absurd hi (Nat.not_lt_zero _), fun i hi => absurd hi (Nat.not_lt_zero _)⟩
  ·omega
theorem BlameIs.first {lock : List Pik} {needs : List (Want × Value)} {ps : List DPack} {budget : Int} {k : Nat} {e : Int} (h : BlameIs lock needs ps budget k e) :
  (e ≠ 0 → k = 0) ∧ (e = 0 → k ≤ needs.length) ∧ (e = 0 → k = 0 → SolE lock needs ps budget 0) ∧ (e = 0 → 0 < k → SolE lock (needs.take k) ps budget 250 ∧ SolE lock (needs.take (k - 1)) ps budget 0) := by
 rcases h with ⟨h1, h2, h3⟩ | ⟨h1, j, hj, ⟨a, b, c, d⟩ | ⟨a, b, c, d, f⟩ | ⟨a, b, c⟩⟩
 ·exact ⟨fun _ => h2, fun h => absurd (h3.symm.trans h) h1, fun h => absurd (h3.symm.trans h) h1, fun h => absurd (h3.symm.trans h) h1⟩
 ·refine ⟨fun h => absurd d h, fun _ => by omega, fun _ hk => ?_, fun _ hk => ?_⟩
  ·have : j = 0 := by omega
   subst this
   exact absurd b (fun h => SolE.none h)
  ·subst c
   exact ⟨b, hj _ (by omega)⟩
 ·exact ⟨fun _ => f, fun h => absurd h b, fun h => absurd h b, fun h => absurd h b⟩
 ·refine ⟨fun _ => b, fun _ => by omega, fun _ _ => ?_, fun _ hk => by omega⟩
  have := hj needs.length (by omega)
  rwa [List.take_length] at this
theorem BlameIs.more {lock : List Pik} {needs extra : List (Want × Value)} {ps : List DPack} {budget : Int} {k m : Nat} {f g : Int} (h : BlameIs lock needs ps budget k 0) (hk : k ≠ 0) (h' : BlameIs lock (needs ++ extra) ps budget m f) (hg : SolE lock (needs ++ extra) ps budget g) :
  (f ≠ 0 → (f = 110 ∨ f = 50) ∧ g = f) ∧ (f = 0 → m = k ∧ (g = 250 ∨ g = 251)) := by
 obtain ⟨_, q2, _, q4⟩ := h.first
 have hkl := q2 rfl
 obtain ⟨h250, _⟩ := q4 rfl (by omega)
 have hpre : ∀ i, i < k → SolE lock (needs.take i) ps budget 0 := by
  rcases h with ⟨h1, h2, h3⟩ | ⟨h1, j, hj, ⟨a, b, c, d⟩ | ⟨a, b, c, d, f⟩ | ⟨a, b, c⟩⟩
  ·exact absurd h3.symm h1
  ·subst c; exact hj
  ·exact absurd rfl b
  ·omega
 have htk : ∀ i, i ≤ k → (needs ++ extra).take i = needs.take i := fun i hi => by rw [List.take_append_of_le_length (by omega)]
 obtain ⟨_, hb1, hb2⟩ := h250.budget
 rcases h' with ⟨h1, h2, h3⟩ | ⟨h1, j, hj, h2⟩
 ·refine ⟨fun hf => ⟨by have := needErr_val (needs ++ extra); omega, ?_⟩, fun hf => absurd (h3.symm.trans hf) h1⟩
  obtain ⟨r, n, hg⟩ := hg
  rcases hg with ⟨_, _, _, h⟩ | ⟨h, _⟩ | ⟨h, _⟩
  ·omega
  ·exact absurd h h1
  ·exact absurd h h1
 ·have e1 : ¬ k < j := fun hlt => by
   have := hj k hlt
   rw [htk k (Nat.le_refl _)] at this
   have := this.uniq h250; omega
  have e2 : j = k := by
   rcases Nat.lt_or_ge j k with hlt | hge
   ·exfalso
    have h0 := hpre j hlt
    rw [← htk j (by omega)] at h0
    rcases h2 with ⟨_, b, _⟩ | ⟨_, b, _, d, _⟩ | ⟨a, _⟩
    ·have := h0.uniq b; omega
    ·exact b (d.uniq h0)
    ·rw [List.length_append] at a; omega
   ·omega
  subst e2
  have h250' := h250
  rw [← htk j (Nat.le_refl _)] at h250'
  rcases h2 with ⟨_, _, c, d⟩ | ⟨_, b, c, d, _⟩ | ⟨a, _⟩
  ·refine ⟨fun hf => absurd d hf, fun _ => ⟨c, ?_⟩⟩
   have hg0 : g ≠ 0 := fun h0 => by
    subst h0
    exact SolE.fewer (fun x hx => List.mem_append_left _ (List.mem_of_mem_take hx)) hg h250
   obtain ⟨r, n, hg⟩ := hg
   rcases hg with ⟨h, _⟩ | ⟨_, h, _⟩ | ⟨_, _, _, _, _, _, hw, _⟩
   ·exact absurd h1 h
   ·omega
   ·rcases hw with ⟨h, _⟩ | ⟨h, _⟩ | ⟨h, _⟩
    ·exact absurd h hg0
    ·exact .inl h
    ·exact .inr h
  ·exact absurd (d.uniq h250') c
  ·rw [List.length_append] at a; omega
end Go
