/- ChoiceReach and ChoiceOrder, plainly: who is reached; a package that is not reached changes nothing; the order of the offers changes nothing. -/
import Derived.Test.YtllkiedikjgkbaaGreatDoorChSames
import Derived.Test.YtllkiedikjgkbaaGreatDoorChLess
namespace Go
open Go.RowKit
/-- each name of a table is asked for, or a need of a choice -/
theorem TableIs.reached {lock : List Pik} {needs : List (Want × Value)} {ps ts : List DPack} (h : TableIs lock needs ps ts) {a : Nam} (ha : a ∈ ts.map pname) :
    (∃ x ∈ needs, wname x = a) ∨ ∃ t ∈ ts, ∃ o ∈ t.os, ∃ n ∈ o.ns, wname n = a := by
  obtain ⟨s, hs, hg⟩ := (h.just a).1 ha
  cases hg with
  | refl =>
    obtain ⟨x, hx, he⟩ := List.mem_map.1 hs
    exact .inl ⟨x, hx, he⟩
  | tail hg he =>
    rename_i b
    obtain ⟨t, ht, rfl⟩ := List.mem_map.1 ((h.just b).2 ⟨s, hs, hg⟩)
    obtain ⟨out, hc, hsim⟩ := h.each t ht
    obtain ⟨o, ho, n, hn, rfl⟩ := (edge_of (out := out) (by rw [pname_S]; exact hc) _).1 he
    obtain ⟨k, hk, rfl⟩ := List.getElem_of_mem ho
    have hk' : k < t.os.length := by have := hsim.1; omega
    have hsm := (hsim.2 k hk hk').2.2
    have hn' : n.1 ∈ t.os[k].ns.map Prod.fst := by rw [← hsm]; exact List.mem_map.2 ⟨n, hn, rfl⟩
    obtain ⟨y, hy, hye⟩ := List.mem_map.1 hn'
    exact .inr ⟨t, ht, t.os[k], List.getElem_mem hk', y, hy, by show y.1.name = n.1.name; rw [hye]⟩
theorem findP_cons_ne {p : DPack} {ps : List DPack} {nm : ByteArray} (h : p.name ≠ nm) : findP (p :: ps) nm = findP ps nm := by
  unfold findP; rw [List.find?_cons_of_neg (by simpa using h)]
/-- a package of a name that is not reached -/
theorem TableIs.more {lock : List Pik} {needs : List (Want × Value)} {ps ts : List DPack} (h : TableIs lock needs ps ts) (p : DPack) (hp : pname p ∉ ts.map pname) : TableIs lock needs (p :: ps) ts := by
  have hf : ∀ a, a ∈ ts.map pname → findP (p :: ps) (S a) = findP ps (S a) := fun a ha => findP_cons_ne fun e => hp (by
    have : pname p = a := by unfold pname; rw [e]; rfl
    rw [this]; exact ha)
  have he : ∀ a b, a ∈ ts.map pname → (EdgeN lock needs (p :: ps) a b ↔ EdgeN lock needs ps a b) := fun a b ha => by unfold EdgeN; rw [hf a ha]
  refine ⟨h.up, fun a => ⟨fun ha => ?_, ?_⟩, fun t ht => ?_⟩
  · obtain ⟨s, hs, hg⟩ := (h.just a).1 ha
    clear ha
    induction hg with
    | refl => exact ⟨_, hs, .refl _⟩
    | tail hg e ih =>
      obtain ⟨s', hs', hg'⟩ := ih
      exact ⟨s', hs', hg'.tail ((he _ _ ((h.just _).2 ⟨_, hs, hg⟩)).2 e)⟩
  · rintro ⟨s, hs, hg⟩
    induction hg with
    | refl => exact (h.just _).2 ⟨_, hs, .refl _⟩
    | tail hg e ih =>
      obtain ⟨s', hs', hg'⟩ := (h.just _).1 ih
      exact (h.just _).2 ⟨s', hs', hg'.tail ((he _ _ ih).1 e)⟩
  · have hn := hf (pname t) (List.mem_map.2 ⟨t, ht, rfl⟩)
    rw [pname_S] at hn
    rw [hn]; exact h.each t ht
/-- offers of versions of their own, the other way round -/
theorem ChoiceIs.turned {lock : List Pik} {nm : ByteArray} {needs : List (Want × Value)} {os out : List DOff} (hap : os.Pairwise fun x y => x.v ≠ y.v) (h : ChoiceIs lock nm needs os out) : ChoiceIs lock nm needs os.reverse out := by
  refine ⟨?_, h.2⟩
  have hr : os.reverse.Pairwise fun x y => x.v ≠ y.v := by
    rw [List.pairwise_reverse]; exact hap.imp fun h => fun e => h e.symm
  have h1 := h.1
  rw [selL_apart lock nm needs hap] at h1
  rw [selL_apart lock nm needs hr]
  exact h1.trans ((List.reverse_perm os).symm.filter _)
end Go
