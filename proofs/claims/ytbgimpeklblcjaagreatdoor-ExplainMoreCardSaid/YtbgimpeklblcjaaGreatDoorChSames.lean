/- The reference's Same of ranges: a walk. The reference of choices: SameOffers of two rows that hold the same: a walk. The reference of choices: Same of two tables that hold the same: a walk. Choices: the table, plainly: what is reached, and the two ways to gather it. -/
import Derived.Test.YtbgimpeklblcjaaGreatDoorSemCom
import Derived.Test.YtbgimpeklblcjaaGreatDoorProg
import Derived.Test.YtbgimpeklblcjaaGreatDoorVerMath
import Derived.Test.YtbgimpeklblcjaaGreatDoorCells
import Derived.Test.YtbgimpeklblcjaaGreatDoorChOffers
import Derived.Deep.CutBlock
namespace Go
end Go
namespace Go.Proofs.YtbgimpeklblcjaaGreatDoor
open Go.RowKit
noncomputable instance : DecidableEq Bnd := fun _ _ => Classical.propDecidable _
end Go.Proofs.YtbgimpeklblcjaaGreatDoor

namespace Go
open Go.RowKit
/-- two offers that hold the same, wherever their needs lie -/
def SimO (o o' : DOff) : Prop := o.v = o'.v ∧ o.y = o'.y ∧ o.ns.map Prod.fst = o'.ns.map Prod.fst
theorem SimO.refl (o : DOff) : SimO o o := ⟨rfl, rfl, rfl⟩
/-- what the region looks at -/
def NdS (b1 o1 : Nat) (v1 : Value) (b2 o2 : Nat) (v2 : Value) (b3 o3 : Nat) (v3 : Value) (b4 o4 : Nat) (v4 : Value) (A : ByteArray) (w0 W : World) : Prop :=
 W.cell? ⟨b1, o1, none⟩ = some v1 ∧ W.cell? ⟨b2, o2, none⟩ = some v2 ∧ W.cell? ⟨b3, o3, none⟩ = some (.string A) ∧ W.cell? ⟨b3, o3 + 1, none⟩ = some v3 ∧ W.cell? ⟨b4, o4, none⟩ = some (.string A) ∧ W.cell? ⟨b4, o4 + 1, none⟩ = some v4 ∧ Below w0.heap.size w0 W
theorem NdS.on {b1 o1 : Nat} {v1 : Value} {b2 o2 : Nat} {v2 : Value} {b3 o3 : Nat} {v3 : Value} {b4 o4 : Nat} {v4 : Value} {A : ByteArray} {w0 : World} : ∀ W W', NdS b1 o1 v1 b2 o2 v2 b3 o3 v3 b4 o4 v4 A w0 W → Below W.heap.size W W' → NdS b1 o1 v1 b2 o2 v2 b3 o3 v3 b4 o4 v4 A w0 W' :=
 fun _ _ ⟨h0, h1, h2, h3, h4, h5, h6⟩ hb => ⟨cell_on h0 hb, cell_on h1 hb, cell_on h2 hb, cell_on h3 hb, cell_on h4 hb, cell_on h5 hb, below_then h6 hb⟩
end Go
namespace Go.Proofs.YtbgimpeklblcjaaGreatDoor
open Go.RowKit
end Go.Proofs.YtbgimpeklblcjaaGreatDoor

namespace Go
open Go.RowKit
/-- two packages that hold the same -/
def SimP (p q : DPack) : Prop := p.name = q.name ∧ q.os.length = p.os.length ∧ ∀ k (h : k < p.os.length) (h' : k < q.os.length), SimO p.os[k] q.os[k]
end Go
namespace Go.Proofs.YtbgimpeklblcjaaGreatDoor
open Go.RowKit
end Go.Proofs.YtbgimpeklblcjaaGreatDoor

namespace Go
/-- a name of bytes -/
abbrev Nam := List UInt8
/-- steps from one to another -/
inductive Goes {α : Type} (E : α → α → Prop) : α → α → Prop
 | refl (a : α) : Goes E a a
 | tail {a b c : α} : Goes E a b → E b c → Goes E a c
theorem Goes.trans {α : Type} {E : α → α → Prop} {a b c : α} (h : Goes E a b) (h' : Goes E b c) : Goes E a c := by
 induction h' with
 | refl => exact h
 | tail _ e ih => exact .tail ih e
theorem Goes.head {α : Type} {E : α → α → Prop} {a b c : α} (e : E a b) (h : Goes E b c) : Goes E a c := (Goes.tail (.refl a) e).trans h
/-- what a search from one has added to a list -/
structure Grew {α : Type} (E : α → α → Prop) (xs0 bs : List α) (nm : α) : Prop where
 ext : ∃ cs, bs = xs0 ++ cs ∧ (∀ c ∈ cs, Goes E nm c) ∧ ∀ c ∈ cs, ∀ d, E c d → d ∈ bs
 mem : nm ∈ bs
/-- a search under way: the one that was added, and some that are behind it -/
structure Grows {α : Type} (E : α → α → Prop) (xs0 bs : List α) (nm : α) : Prop where
 ext : ∃ cs, bs = xs0 ++ nm :: cs ∧ (∀ c ∈ cs, Goes E nm c) ∧ ∀ c ∈ cs, ∀ d, E c d → d ∈ bs
section
variable {α : Type} {E : α → α → Prop} {xs0 bs cs : List α} {nm d : α}
theorem Grew.there (h : nm ∈ xs0) : Grew E xs0 xs0 nm := ⟨⟨[], by simp, by simp, by simp⟩, h⟩
theorem Grows.start (xs0 : List α) (nm : α) : Grows E xs0 (xs0 ++ [nm]) nm := ⟨⟨[], rfl, by simp, by simp⟩⟩
theorem Grew.sub (h : Grew E xs0 bs nm) {x : α} (hx : x ∈ xs0) : x ∈ bs := by
 obtain ⟨cs, rfl, _⟩ := h.ext; exact List.mem_append_left _ hx
theorem Grows.step (h : Grows E xs0 bs nm) (he : E nm d) (h' : Grew E bs cs d) : Grows E xs0 cs nm := by
 obtain ⟨xs, hb, h1, h2⟩ := h.ext
 obtain ⟨ys, hc, h3, h4⟩ := h'.ext
 refine ⟨⟨xs ++ ys, by rw [hc, hb]; simp, fun c hm => ?_, fun c hm e hE => ?_⟩⟩
 ·rcases List.mem_append.1 hm with hm | hm
  ·exact h1 c hm
  ·exact Goes.head he (h3 c hm)
 ·rcases List.mem_append.1 hm with hm | hm
  ·exact h'.sub (h2 c hm e hE)
  ·exact h4 c hm e hE
theorem Grows.done (h : Grows E xs0 bs nm) (ha : ∀ d, E nm d → d ∈ bs) : Grew E xs0 bs nm := by
 obtain ⟨xs, hb, h1, h2⟩ := h.ext
 refine ⟨⟨nm :: xs, hb, fun c hm => ?_, fun c hm d hE => ?_⟩, by rw [hb]; simp⟩
 ·rcases List.mem_cons.1 hm with rfl | hm
  ·exact .refl _
  ·exact h1 c hm
 ·rcases List.mem_cons.1 hm with rfl | hm
  ·exact ha d hE
  ·exact h2 c hm d hE
theorem Grew.len (h : Grew E xs0 bs nm) : xs0.length ≤ bs.length := by
 obtain ⟨cs, rfl, _⟩ := h.ext; simp
theorem Grows.len (h : Grows E xs0 bs nm) : xs0.length < bs.length := by
 obtain ⟨cs, rfl, _⟩ := h.ext; simp
/-- what is reached from some -/
def ReachedL (E : α → α → Prop) (ss : List α) (x : α) : Prop := ∃ s ∈ ss, Goes E s x
/-- a search from several: those that were asked so far -/
structure GrowsAll (E : α → α → Prop) (ss bs : List α) : Prop where
 in_ : ∀ c ∈ bs, ReachedL E ss c
 closed : ∀ c ∈ bs, ∀ d, E c d → d ∈ bs
 all : ∀ s ∈ ss, s ∈ bs
theorem GrowsAll.start : GrowsAll E ([] : List α) [] := ⟨by simp, by simp, by simp⟩
theorem GrowsAll.step {ss : List α} (h : GrowsAll E ss bs) (h' : Grew E bs cs d) : GrowsAll E (ss ++ [d]) cs := by
 obtain ⟨xs, hx, h1, h2⟩ := h'.ext
 refine ⟨fun c hc => ?_, fun c hc e hE => ?_, fun s hs => ?_⟩
 ·rw [hx] at hc
  rcases List.mem_append.1 hc with hc | hc
  ·obtain ⟨s, hs, hst⟩ := h.in_ c hc
   exact ⟨s, List.mem_append_left _ hs, hst⟩
  ·exact ⟨d, by simp, h1 c hc⟩
 ·rw [hx] at hc
  rcases List.mem_append.1 hc with hc | hc
  ·exact h'.sub (h.closed c hc e hE)
  ·exact h2 c hc e hE
 ·rcases List.mem_append.1 hs with hs | hs
  ·exact h'.sub (h.all s hs)
  ·simp at hs; subst hs; exact h'.mem
theorem closed_goes {s x : α} (hc : ∀ c ∈ bs, ∀ d, E c d → d ∈ bs) (hs : s ∈ bs) (h : Goes E s x) : x ∈ bs := by
 induction h with
 | refl => exact hs
 | tail _ e ih => exact hc _ ih _ e
theorem GrowsAll.iff {ss : List α} (h : GrowsAll E ss bs) (x : α) : x ∈ bs ↔ ReachedL E ss x :=
 ⟨h.in_ x, fun ⟨_, hs, hst⟩ => closed_goes h.closed (h.all _ hs) hst⟩
/-- how many of a list are not yet there -/
def leftN [DecidableEq α] (us xs0 : List α) : Nat := (us.filter fun u => decide (u ∉ xs0)).length
theorem leftN_le [DecidableEq α] {us xs0 bs : List α} (h : ∀ x ∈ xs0, x ∈ bs) : leftN us bs ≤ leftN us xs0 := by
 unfold leftN
 induction us with
 | nil => simp
 | cons u us ih =>
  rw [List.filter_cons, List.filter_cons]
  by_cases h1 : u ∈ bs
  ·have h2 : ¬ (decide (u ∉ bs) = true) := by simpa using h1
   rw [if_neg h2]
   split
   ·rw [List.length_cons]; omega
   ·exact ih
  ·have h2 : decide (u ∉ bs) = true := by simpa using h1
   have h3 : decide (u ∉ xs0) = true := by simpa using fun hu => h1 (h u hu)
   rw [if_pos h2, if_pos h3]; simpa using ih
theorem leftN_lt [DecidableEq α] {us xs0 bs : List α} {x : α} (h : ∀ x ∈ xs0, x ∈ bs) (hx : x ∈ us) (h1 : x ∉ xs0) (h2 : x ∈ bs) : leftN us bs < leftN us xs0 := by
 induction us with
 | nil => cases hx
 | cons u us ih =>
  have hle : leftN us bs ≤ leftN us xs0 := leftN_le h
  unfold leftN at ih hle ⊢
  rw [List.filter_cons, List.filter_cons]
  rcases List.mem_cons.1 hx with rfl | hx
  ·have h3 : ¬ (decide (x ∉ bs) = true) := by simpa using h2
   have h4 : decide (x ∉ xs0) = true := by simpa using h1
   rw [if_neg h3, if_pos h4, List.length_cons]; omega
  ·by_cases hb : u ∈ bs
   ·have h3 : ¬ (decide (u ∉ bs) = true) := by simpa using hb
    rw [if_neg h3]
    split
    ·rw [List.length_cons]; have := ih hx; omega
    ·exact ih hx
   ·have h3 : decide (u ∉ bs) = true := by simpa using hb
    have h4 : decide (u ∉ xs0) = true := by simpa using fun hu => hb (h u hu)
    rw [if_pos h3, if_pos h4]; simpa using ih hx
theorem nodup_len {us xs0 : List α} (h : xs0.Nodup) (hs : ∀ x ∈ xs0, x ∈ us) : xs0.length ≤ us.length := List.Nodup.length_le_of_subset h hs
end
/-! the needs of choices -/
open Go.RowKit
def wname (x : Want × Value) : Nam := x.1.name
/-- from a package's name to what its choices need -/
def EdgeN (lock : List Pik) (needs : List (Want × Value)) (ps : List DPack) (a b : Nam) : Prop := ∃ o ∈ selL lock (S a) needs (findP ps (S a)).os, ∃ n ∈ o.ns, wname n = b
theorem edge_of {lock : List Pik} {needs : List (Want × Value)} {ps : List DPack} {a : Nam} {out : List DOff} (h : ChoiceIs lock (S a) needs (findP ps (S a)).os out) (b : Nam) : EdgeN lock needs ps a b ↔ ∃ o ∈ out, ∃ n ∈ o.ns, wname n = b := by
 unfold EdgeN
 constructor
 ·rintro ⟨o, ho, r⟩; exact ⟨o, h.1.mem_iff.2 ho, r⟩
 ·rintro ⟨o, ho, r⟩; exact ⟨o, h.1.mem_iff.1 ho, r⟩
/-- all names that stand anywhere -/
def allNames (needs : List (Want × Value)) (ps : List DPack) : List Nam := needs.map wname ++ ps.flatMap fun p => p.os.flatMap fun o => o.ns.map wname
theorem selL_sub {lock : List Pik} {nm : ByteArray} {needs : List (Want × Value)} {o : DOff} : ∀ (os out : List DOff), o ∈ os.foldl (selStep lock nm needs) out → o ∈ out ∨ o ∈ os
 | [], out, h => .inl h
 | x :: os, out, h => by
  rw [List.foldl_cons] at h
  rcases selL_sub os _ h with h | h
  ·unfold selStep at h
   split at h
   ·rcases List.mem_append.1 h with h | h
    ·exact .inl h
    ·simp at h; subst h; exact .inr (by simp)
   ·exact .inl h
  ·exact .inr (List.mem_cons_of_mem _ h)
theorem findP_os {ps : List DPack} {nm : ByteArray} {o : DOff} (h : o ∈ (findP ps nm).os) : ∃ p ∈ ps, o ∈ p.os := by
 unfold findP at h
 rcases hf : ps.find? (fun p => decide (p.name = nm)) with _ | p
 ·rw [hf] at h; simp at h
 ·rw [hf] at h
  exact ⟨p, List.mem_of_find?_eq_some hf, h⟩
theorem findP_name (ps : List DPack) (nm : ByteArray) : (findP ps nm).name = nm := by
 unfold findP
 rcases hf : ps.find? (fun p => decide (p.name = nm)) with _ | p
 ·rw [hf]; rfl
 ·have := List.find?_some hf
  rw [hf]; simpa using this
theorem edge_all {lock : List Pik} {needs : List (Want × Value)} {ps : List DPack} {a b : Nam} (h : EdgeN lock needs ps a b) : b ∈ allNames needs ps := by
 obtain ⟨o, ho, n, hn, rfl⟩ := h
 rcases selL_sub _ _ ho with h | h
 ·cases h
 ·obtain ⟨p, hp, ho⟩ := findP_os h
  exact List.mem_append_right _ (List.mem_flatMap.2 ⟨p, hp, List.mem_flatMap.2 ⟨o, ho, List.mem_map.2 ⟨n, hn, rfl⟩⟩⟩)
/-- what is reached -/
def ReachedN (lock : List Pik) (needs : List (Want × Value)) (ps : List DPack) (a : Nam) : Prop := ReachedL (EdgeN lock needs ps) (needs.map wname) a
def SimOs (a b : List DOff) : Prop := b.length = a.length ∧ ∀ k (h : k < a.length) (h' : k < b.length), SimO a[k] b[k]
theorem SimO.symm {a b : DOff} (h : SimO a b) : SimO b a := ⟨h.1.symm, h.2.1.symm, h.2.2.symm⟩
theorem SimO.trans {a b c : DOff} (h : SimO a b) (h' : SimO b c) : SimO a c := ⟨h.1.trans h'.1, h.2.1.trans h'.2.1, h.2.2.trans h'.2.2⟩
theorem SimOs.refl (a : List DOff) : SimOs a a := ⟨rfl, fun _ _ _ => SimO.refl _⟩
theorem SimOs.symm {a b : List DOff} (h : SimOs a b) : SimOs b a := ⟨h.1.symm, fun k h1 h2 => (h.2 k h2 h1).symm⟩
theorem SimOs.trans {a b c : List DOff} (h : SimOs a b) (h' : SimOs b c) : SimOs a c := ⟨h'.1.trans h.1, fun k h1 h2 => (h.2 k h1 (by rw [h.1]; exact h1)).trans (h'.2 k (by rw [h.1]; exact h1) h2)⟩
def pname (p : DPack) : Nam := p.name.data.toList
theorem pname_S (p : DPack) : S (pname p) = p.name := S_of _
/-- a table of choices -/
structure TableIs (lock : List Pik) (needs : List (Want × Value)) (ps ts : List DPack) : Prop where
 up : (ts.map pname).Pairwise (· < ·)
 just : ∀ a, a ∈ ts.map pname ↔ ReachedN lock needs ps a
 each : ∀ t ∈ ts, ∃ out, ChoiceIs lock t.name needs (findP ps t.name).os out ∧ SimOs out t.os
theorem sorted_one {a b : List Nam} (ha : a.Pairwise (· < ·)) (hb : b.Pairwise (· < ·)) (h : ∀ x, x ∈ a ↔ x ∈ b) : a = b :=
 pairwise_uniq (fun x => List.lt_irrefl x) (fun _ _ _ => List.lt_trans) ha hb h
theorem two_tables {lock : List Pik} {needs : List (Want × Value)} {ps a b : List DPack} (ha : TableIs lock needs ps a) (hb : TableIs lock needs ps b) :
  b.length = a.length ∧ ∀ k (h : k < a.length) (h' : k < b.length), SimP a[k] b[k] := by
 have e : a.map pname = b.map pname := sorted_one ha.up hb.up fun x => (ha.just x).trans (hb.just x).symm
 have hl : b.length = a.length := by have := congrArg List.length e; simpa using this.symm
 refine ⟨hl, fun k h h' => ?_⟩
 have hn : a[k].name = b[k].name := by
  have : (a.map pname)[k]? = (b.map pname)[k]? := by rw [e]
  rw [List.getElem?_map, List.getElem?_map, List.getElem?_eq_getElem h, List.getElem?_eq_getElem h'] at this
  simp only [Option.map_some, Option.some.injEq] at this
  rw [← pname_S, ← pname_S, this]
 obtain ⟨x, hx, sx⟩ := ha.each _ (List.getElem_mem h)
 obtain ⟨y, hy, sy⟩ := hb.each _ (List.getElem_mem h')
 rw [← hn] at hy
 have := hx.uniq hy
 subst this
 have := sx.symm.trans sy
 exact ⟨hn, this.1, this.2⟩
end Go
