/- Releases as bytes, plainly: what is laid; what some bytes are; keys. -/
import Derived.Test.YtlhpgkaffbgkgaaGreatDoorOctMath2
import Derived.Test.YtlhpgkaffbgkgaaGreatDoorRanMath
import Derived.Test.YtlhpgkaffbgkgaaGreatDoorLexMath
import Derived.Test.YtlhpgkaffbgkgaaGreatDoorUtfMath
namespace Go
open Go.Oct
/-- a release -/
structure Rel where
  name : ByteArray
  v : V4
  source : ByteArray
  face : ByteArray
  yanked : Bool
  note : ByteArray
def Rel.val (r : Rel) : Value := .agg #[.string r.name, .int .i64 r.v.a, .int .i64 r.v.b, .int .i64 r.v.c, .string r.v.p, .string r.source, .string r.face, .bool r.yanked, .string r.note]
def Rel.zero : Rel := ⟨⟨#[]⟩, V4.zero, ⟨#[]⟩, ⟨#[]⟩, false, ⟨#[]⟩⟩
/-- may a note be? -/
def utfB (l : List UInt8) : Bool := decide ((Utf.pts l).2 = l.length)
def loudB (l : List UInt8) : Bool := l.all fun c => decide (32 ≤ c.toNat)
def noteB (l : List UInt8) : Bool := decide (l.length ≤ 200) && utfB l && loudB l
def yankL (b : Bool) : List UInt8 := if b then [89] else []
def Rel.parts (r : Rel) : List (List UInt8) := [r.name.data.toList, r.v.show, r.source.data.toList, r.face.data.toList, yankL r.yanked, r.note.data.toList]
def Rel.ok (r : Rel) : Bool := r.v.ok && nameOk r.name.data.toList && decide (r.source.size ≤ 4096) && decide (r.face.size ≤ 3000) && noteB r.note.data.toList
def Rel.text (r : Rel) : List UInt8 := listL r.parts
def relShow (r : Rel) : List UInt8 × Int := if r.ok then (r.text, 0) else ([], 220)
/-- the release that some bytes are, or the error -/
def RelIs (l : List UInt8) (r : Rel) (e : Int) : Prop := (e = 0 ∧ r.ok = true ∧ r.text = l) ∨ (e = 220 ∧ r = Rel.zero ∧ ∀ q : Rel, q.ok = true → q.text ≠ l)
theorem show_le {v : V4} (h : v.ok = true) : v.show.length ≤ 45 := by
  have b := verOk_bounds h
  exact showL_len (by omega) (by omega) (by omega) (by omega)
theorem rel_parts {r : Rel} (h : r.ok = true) : r.v.ok = true ∧ nameOk r.name.data.toList = true ∧ r.source.size ≤ 4096 ∧ r.face.size ≤ 3000 ∧ noteB r.note.data.toList = true := by
  unfold Rel.ok at h
  simp only [Bool.and_eq_true, decide_eq_true_eq] at h
  exact ⟨h.1.1.1.1, h.1.1.1.2, h.1.1.2, h.1.2, h.2⟩
theorem note_len {l : List UInt8} (h : noteB l = true) : l.length ≤ 200 := by
  unfold noteB at h
  simp only [Bool.and_eq_true, decide_eq_true_eq] at h
  exact h.1.1
theorem yank_len (b : Bool) : (yankL b).length ≤ 1 := by cases b <;> decide
theorem rel_small {r : Rel} (h : r.ok = true) : ∀ l ∈ r.parts, l.length ≤ 4096 := by
  obtain ⟨h1, h2, h3, h4, h5⟩ := rel_parts h
  have g1 := show_le h1
  have g2 := (name_len h2).2.1
  have g3 := note_len h5
  have g4 := yank_len r.yanked
  rw [Lib.size_eq] at h3 h4
  intro l hl
  unfold Rel.parts at hl
  simp only [List.mem_cons, List.not_mem_nil, or_false] at hl
  rcases hl with rfl | rfl | rfl | rfl | rfl | rfl <;> omega
theorem rel_tL {r : Rel} (h : r.ok = true) (t : List UInt8) : tL (r.text ++ t) = (r.parts, r.text.length, 0) :=
  tL_list (by show 6 < _; decide) (fun l hl => Nat.lt_of_le_of_lt (rel_small h l hl) (by decide)) t
theorem rel_tL0 {r : Rel} (h : r.ok = true) : tL r.text = (r.parts, r.text.length, 0) := by have := rel_tL h []; rwa [List.append_nil] at this
theorem rel_len {r : Rel} (h : r.ok = true) : r.text.length ≤ 30000 := by
  have := listL_len 4096 r.parts (rel_small h)
  have e : r.parts.length = 6 := rfl
  rw [e] at this
  unfold Rel.text; omega
theorem bytes_inj {a b : ByteArray} (h : a.data.toList = b.data.toList) : a = b := ByteArray.ext (Array.toList_inj.1 h)
theorem yank_inj {a b : Bool} (h : yankL a = yankL b) : a = b := by cases a <;> cases b <;> first | rfl | cases h
/-- the release of six parts -/
theorem rel_six {q : Rel} (hq : q.ok = true) {l0 l1 l2 l3 l4 l5 : List UInt8} {v : V4} {b : Bool} (hp : q.parts = [l0, l1, l2, l3, l4, l5]) (hv : v.IsShow l1) (hb : ∀ c, yankL c = l4 → c = b) :
    q = ⟨S l0, v, S l2, S l3, b, S l5⟩ := by
  unfold Rel.parts at hp
  simp only [List.cons.injEq, and_true] at hp
  obtain ⟨h0, h1, h2, h3, h4, h5⟩ := hp
  have e0 : q.v = v := V4.isShow_inj (⟨(rel_parts hq).1, h1⟩ : q.v.IsShow l1) hv
  obtain ⟨a, v', c, d, y, n⟩ := q
  simp only at h0 h2 h3 h4 h5 e0
  subst e0
  rw [hb y h4]
  congr 1 <;> apply bytes_inj <;> assumption
theorem rel_inj {q r : Rel} (hq : q.ok = true) (hr : r.ok = true) (h : q.text = r.text) : q = r := by
  have e1 := rel_tL0 hq
  rw [h, rel_tL0 hr] at e1
  have e2 : r.parts = q.parts := congrArg Prod.fst e1
  have h1 := rel_six hq (e2.symm.trans rfl) (⟨(rel_parts hr).1, rfl⟩ : r.v.IsShow r.v.show) (b := r.yanked) (fun c hc => yank_inj hc)
  rw [h1]
  rfl
theorem RelIs.uniq {l : List UInt8} {r r' : Rel} {e e' : Int} (h : RelIs l r e) (h' : RelIs l r' e') : r = r' ∧ e = e' := by
  rcases h with ⟨rfl, h1, h2⟩ | ⟨rfl, rfl, h⟩ <;> rcases h' with ⟨rfl, g1, g2⟩ | ⟨rfl, rfl, g⟩
  · exact ⟨rel_inj h1 g1 (h2.trans g2.symm), rfl⟩
  · exact absurd h2 (g _ h1)
  · exact absurd g2 (h _ g1)
  · exact ⟨rfl, rfl⟩
theorem relIs_fit {l : List UInt8} {r : Rel} (h : r.ok = true) (ht : r.text = l) : RelIs l r 0 := .inl ⟨rfl, h, ht⟩
theorem relIs_no {l : List UInt8} (h : ∀ q : Rel, q.ok = true → q.text ≠ l) : RelIs l Rel.zero 220 := .inr ⟨rfl, rfl, h⟩
theorem relIs_er {l : List UInt8} (h : (tL l).2.2 ≠ 0) : RelIs l Rel.zero 220 := relIs_no fun q hq e => by
  subst e
  rw [rel_tL0 hq] at h
  exact h rfl
theorem relIs_long {l : List UInt8} {ls : List (List UInt8)} {u : Nat} (h : tL l = (ls, u, 0)) (hu : u ≠ l.length) : RelIs l Rel.zero 220 := relIs_no fun q hq e => by
  subst e
  rw [rel_tL0 hq] at h
  exact hu (congrArg (fun x => x.2.1) h).symm
theorem relIs_count {l : List UInt8} {ls : List (List UInt8)} {u : Nat} (h : tL l = (ls, u, 0)) (hn : ls.length ≠ 6) : RelIs l Rel.zero 220 := relIs_no fun q hq e => by
  subst e
  rw [rel_tL0 hq] at h
  have e2 : q.parts = ls := congrArg Prod.fst h
  exact hn (by rw [← e2]; rfl)
theorem relIs_ver {l l0 l1 l2 l3 l4 l5 : List UInt8} {u : Nat} (h : tL l = ([l0, l1, l2, l3, l4, l5], u, 0)) (hv : ∀ a b c p, ¬ IsShow a b c p l1) : RelIs l Rel.zero 220 := relIs_no fun q hq e => by
  subst e
  rw [rel_tL0 hq] at h
  have hp : q.parts = [l0, l1, l2, l3, l4, l5] := congrArg Prod.fst h
  unfold Rel.parts at hp
  simp only [List.cons.injEq, and_true] at hp
  exact hv q.v.a q.v.b q.v.c q.v.p.data.toList ⟨(rel_parts hq).1, hp.2.1⟩
/-- what was read is laid again: it is not what stood there -/
theorem relIs_not {l l0 l1 l2 l3 l4 l5 : List UInt8} {u : Nat} {v : V4} {b : Bool} (h : tL l = ([l0, l1, l2, l3, l4, l5], u, 0)) (hv : v.IsShow l1) (hb : ∀ c, yankL c = l4 → c = b)
    (hn : ¬ ((⟨S l0, v, S l2, S l3, b, S l5⟩ : Rel).ok = true ∧ (⟨S l0, v, S l2, S l3, b, S l5⟩ : Rel).text = l)) : RelIs l Rel.zero 220 := relIs_no fun q hq e => by
  have h' := h
  rw [← e, rel_tL0 hq] at h'
  have hp : q.parts = [l0, l1, l2, l3, l4, l5] := congrArg Prod.fst h'
  have := rel_six hq hp hv hb
  rw [this] at hq e
  exact hn ⟨hq, e⟩
theorem yank_some (l : List UInt8) : ∀ c, yankL c = l → c = !l.isEmpty := by
  intro c h; subst h; cases c <;> rfl
theorem yank_Y (l : List UInt8) : ∀ c, yankL c = l → c = (l == [89]) := by
  intro c h; subst h; cases c <;> rfl
/-- nothing may stand behind a release -/
theorem rel_behind {r : Rel} (h : r.ok = true) {x : UInt8} {t : List UInt8} : ∀ q : Rel, q.ok = true → q.text ≠ r.text ++ x :: t := by
  intro q hq e
  have h1 := rel_tL0 hq
  rw [e, rel_tL h] at h1
  have h2 : r.text.length = (r.text ++ x :: t).length := congrArg (fun x => x.2.1) h1
  rw [List.length_append, List.length_cons] at h2
  omega
theorem relShow_no {r : Rel} (h : r.ok = false) : relShow r = ([], 220) := by unfold relShow; rw [h]; rfl
theorem relShow_yes {r : Rel} (h : r.ok = true) : relShow r = (r.text, 0) := by unfold relShow; rw [h]; rfl
/-! keys -/
def ownL (n : List UInt8) : List UInt8 := 111 :: 47 :: n
def relL (n t : List UInt8) : List UInt8 := 114 :: 47 :: (n ++ 47 :: t)
/-- what a key is of: a name, a version, is it a release's? -/
def KeyIs (l n : List UInt8) (v : V4) (is : Bool) (e : Int) : Prop :=
  (e = 0 ∧ is = false ∧ v = V4.zero ∧ nameOk n = true ∧ l = ownL n) ∨ (e = 0 ∧ is = true ∧ nameOk n = true ∧ ∃ t, v.IsShow t ∧ l = relL n t) ∨
  (e = 220 ∧ is = false ∧ v = V4.zero ∧ n = [] ∧ (∀ m, nameOk m = true → l ≠ ownL m) ∧ ∀ m x t, nameOk m = true → V4.IsShow x t → l ≠ relL m t)
theorem slash_split : ∀ {n m s t : List UInt8}, (∀ c ∈ n, c ≠ 47) → (∀ c ∈ m, c ≠ 47) → n ++ 47 :: s = m ++ 47 :: t → n = m ∧ s = t
  | [], [], s, t, _, _, h => ⟨rfl, by injection h⟩
  | [], b :: m, s, t, _, hm, h => by injection h with h; exact absurd h.symm (hm b List.mem_cons_self)
  | a :: n, [], s, t, hn, _, h => by injection h with h; exact absurd h (hn a List.mem_cons_self)
  | a :: n, b :: m, s, t, hn, hm, h => by
    injection h with h1 h2
    obtain ⟨e1, e2⟩ := slash_split (fun c hc => hn c (List.mem_cons_of_mem _ hc)) (fun c hc => hm c (List.mem_cons_of_mem _ hc)) h2
    exact ⟨by rw [h1, e1], e2⟩
theorem name_slash {n : List UInt8} (h : nameOk n = true) : ∀ c ∈ n, c ≠ 47 := name_no h 47 (by decide)
theorem relL_inj {n m s t : List UInt8} (hn : nameOk n = true) (hm : nameOk m = true) (h : relL n s = relL m t) : n = m ∧ s = t := by
  unfold relL at h
  injection h with _ h
  injection h with _ h
  exact slash_split (name_slash hn) (name_slash hm) h
theorem own_rel {n m t : List UInt8} : ownL n ≠ relL m t := fun h => by unfold ownL relL at h; injection h with h; cases h
theorem ownL_inj {n m : List UInt8} (h : ownL n = ownL m) : n = m := by injection h with _ h; injection h
theorem KeyIs.uniq {l n n' : List UInt8} {v v' : V4} {is is' : Bool} {e e' : Int} (h : KeyIs l n v is e) (h' : KeyIs l n' v' is' e') : n = n' ∧ v = v' ∧ is = is' ∧ e = e' := by
  rcases h with ⟨rfl, rfl, rfl, h1, h2⟩ | ⟨rfl, rfl, h1, t, h2, h3⟩ | ⟨rfl, rfl, rfl, rfl, h1, h2⟩ <;> rcases h' with ⟨rfl, rfl, rfl, g1, g2⟩ | ⟨rfl, rfl, g1, u, g2, g3⟩ | ⟨rfl, rfl, rfl, rfl, g1, g2⟩
  · exact ⟨ownL_inj (h2.symm.trans g2), rfl, rfl, rfl⟩
  · exact absurd (h2.symm.trans g3) own_rel
  · exact absurd h2 (g1 _ h1)
  · exact absurd (g2.symm.trans h3) own_rel
  · obtain ⟨rfl, rfl⟩ := relL_inj h1 g1 (h3.symm.trans g3)
    exact ⟨rfl, V4.isShow_inj h2 g2, rfl, rfl⟩
  · exact absurd h3 (g2 _ _ _ h1 h2)
  · exact absurd g2 (h1 _ g1)
  · exact absurd g3 (h2 _ _ _ g1 g2)
  · exact ⟨rfl, rfl, rfl, rfl⟩
theorem relL_len {n t : List UInt8} {v : V4} (hn : nameOk n = true) (hv : v.IsShow t) : (relL n t).length ≤ 100 := by
  have h1 := (name_len hn).2.1
  have h2 := show_le hv.1
  rw [hv.2] at h2
  unfold relL
  simp only [List.length_cons, List.length_append]
  omega
theorem ownL_len {n : List UInt8} (hn : nameOk n = true) : (ownL n).length ≤ 100 := by
  have h1 := (name_len hn).2.1
  unfold ownL
  simp only [List.length_cons]
  omega
end Go
