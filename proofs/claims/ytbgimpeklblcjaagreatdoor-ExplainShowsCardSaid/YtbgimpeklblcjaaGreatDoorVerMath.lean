/- Rows of versions, plainly: how they lie in memory; their order. Texts in plain Lean: a text at a byte, and put together again. Ranges in plain Lean: bounds, how they lie, what is written of them, and that it is one-to-one. -/
import Derived.Test.YtbgimpeklblcjaaGreatDoorCells
import Derived.Test.YtbgimpeklblcjaaGreatDoorSemMath
import Derived.Test.YtbgimpeklblcjaaGreatDoorBase
import Derived.Lib.SplitLaws
import Derived.Lib.IndexBytes
namespace Go
open Go.RowKit
/-- a version -/
structure V4 where
 a : Int
 b : Int
 c : Int
 p : ByteArray
def V4.cells (v : V4) : List Value := [.int .i64 v.a, .int .i64 v.b, .int .i64 v.c, .string v.p]
def V4.val (v : V4) : Value := .agg #[.int .i64 v.a, .int .i64 v.b, .int .i64 v.c, .string v.p]
def Vers (w : World) (v : Value) (vs : List V4) : Prop := Row w 4 v vs.length (vs.flatMap V4.cells)
theorem Vers.below {w w' : World} {v : Value} {vs : List V4} (h : Vers w v vs) {B : Nat} (hb : Below B w w') (hB : w.heap.size ≤ B) : Vers w' v vs := Row.below h hb hB
theorem vers_get (vs : List V4) : ∀ (j : Nat) (h : j < vs.length) (i : Nat), i < 4 → (vs.flatMap V4.cells)[j * 4 + i]? = (vs[j].cells)[i]? := by
 induction vs with
 | nil => intro j h; cases h
 | cons v vs ih =>
  intro j h i hi
  rw [List.flatMap_cons]
  cases j with
  | zero =>
   have : i < v.cells.length := hi
   rw [Nat.zero_mul, Nat.zero_add, List.getElem?_append_left this]; rfl
  | succ j =>
   have hl : v.cells.length = 4 := rfl
   rw [List.getElem?_append_right (by rw [hl]; omega), hl, show (j + 1) * 4 + i - 4 = j * 4 + i by omega, ih j (by simpa using h) i hi]
   rfl
theorem Vers.cases {w : World} {v : Value} {vs : List V4} (h : Vers w v vs) :
  vs.length ≤ maxLen ∧ ((∃ a cap, v = .slice a 0 cap ∧ vs = []) ∨
  ∃ b off cap, v = .slice (some ⟨b, off, none⟩) vs.length cap ∧ 0 < vs.length ∧ b < w.heap.size ∧ ∀ j (h : j < vs.length), w.cell? ⟨b, off + j * 4, none⟩ = some (.int .i64 vs[j].a) ∧
   w.cell? ⟨b, off + j * 4 + 1, none⟩ = some (.int .i64 vs[j].b) ∧ w.cell? ⟨b, off + j * 4 + 2, none⟩ = some (.int .i64 vs[j].c) ∧ w.cell? ⟨b, off + j * 4 + 3, none⟩ = some (.string vs[j].p)) := by
 obtain ⟨h1, h2, ⟨a, cap, h3, h4, _⟩ | ⟨b, off, cap, h3, h4, h5, h6⟩⟩ := h
 ·exact ⟨h2, .inl ⟨a, cap, h3, List.eq_nil_of_length_eq_zero h4⟩⟩
 ·refine ⟨h2, .inr ⟨b, off, cap, h3, h4, h5, fun j hj => ?_⟩⟩
  have g := fun i hi => (h6 (j * 4 + i) (by omega)).trans (vers_get vs j hj i hi)
  refine ⟨?_, ?_, ?_, ?_⟩
  ·have := g 0 (by omega); simpa [V4.cells] using this
  ·have := g 1 (by omega); simpa [V4.cells, Nat.add_assoc] using this
  ·have := g 2 (by omega); simpa [V4.cells, Nat.add_assoc] using this
  ·have := g 3 (by omega); simpa [V4.cells, Nat.add_assoc] using this
def V4.cmp (x y : V4) : Int := cmpV x.a x.b x.c x.p.data.toList y.a y.b y.c y.p.data.toList
theorem good_v4 : OrdG V4.cmp := good_ver.comap fun v : V4 => (⟨v.a, v.b, v.c, v.p.data.toList⟩ : PV)
def V4.zero : V4 := ⟨0, 0, 0, ⟨#[]⟩⟩
end Go

namespace Go
/-- a text at each c -/
def sepAt (c : UInt8) : List UInt8 → List (List UInt8)
 | [] => [[]]
 | x :: l => if x = c then [] :: sepAt c l else match sepAt c l with
  | [] => [[x]]
  | p :: ps => (x :: p) :: ps
theorem sepAt_none {c : UInt8} {l : List UInt8} (h : ∀ x ∈ l, x ≠ c) : sepAt c l = [l] := by
 induction l with
 | nil => rfl
 | cons x l ih => rw [sepAt, if_neg (h x (by simp)), ih (fun y hy => h y (by simp [hy]))]
theorem sepAt_app {c : UInt8} {l : List UInt8} (y : List UInt8) (h : ∀ x ∈ l, x ≠ c) : sepAt c (l ++ c :: y) = l :: sepAt c y := by
 induction l with
 | nil => simp [sepAt]
 | cons x l ih => rw [List.cons_append, sepAt, if_neg (h x (by simp)), ih (fun z hz => h z (by simp [hz]))]
/-- pieces with c between -/
def joinAt (c : UInt8) : List (List UInt8) → List UInt8
 | [] => []
 | [p] => p
 | p :: q :: r => p ++ c :: joinAt c (q :: r)
theorem sepAt_join {c : UInt8} : ∀ {ls : List (List UInt8)}, ls ≠ [] → (∀ p ∈ ls, ∀ x ∈ p, x ≠ c) → sepAt c (joinAt c ls) = ls
 | [], h, _ => absurd rfl h
 | [p], _, h => by rw [joinAt]; exact sepAt_none (h p (by simp))
 | p :: q :: r, _, h => by
  rw [joinAt, sepAt_app _ (h p (by simp)), sepAt_join (by simp) (fun z hz => h z (by simp at hz ⊢; right; exact hz))]
end Go

namespace Go
open Go.RowKit
/-- a bound -/
structure Bnd where
 op : Int
 v : V4
def Bnd.cells (b : Bnd) : List Value := [.int .i64 b.op, .int .i64 b.v.a, .int .i64 b.v.b, .int .i64 b.v.c, .string b.v.p]
def Bnds (w : World) (v : Value) (bs : List Bnd) : Prop := Row w 5 v bs.length (bs.flatMap Bnd.cells)
theorem Bnds.below {w w' : World} {v : Value} {bs : List Bnd} (h : Bnds w v bs) {B : Nat} (hb : Below B w w') (hB : w.heap.size ≤ B) : Bnds w' v bs := Row.below h hb hB
theorem bnds_get (vs : List Bnd) : ∀ (j : Nat) (h : j < vs.length) (i : Nat), i < 5 → (vs.flatMap Bnd.cells)[j * 5 + i]? = (vs[j].cells)[i]? := by
 induction vs with
 | nil => intro j h; cases h
 | cons v vs ih =>
  intro j h i hi
  rw [List.flatMap_cons]
  cases j with
  | zero =>
   have : i < v.cells.length := hi
   rw [Nat.zero_mul, Nat.zero_add, List.getElem?_append_left this]; rfl
  | succ j =>
   have hl : v.cells.length = 5 := rfl
   rw [List.getElem?_append_right (by rw [hl]; omega), hl, show (j + 1) * 5 + i - 5 = j * 5 + i by omega, ih j (by simpa using h) i hi]
   rfl
theorem bnds_len (vs : List Bnd) : (vs.flatMap Bnd.cells).length = vs.length * 5 := by
 induction vs with
 | nil => rfl
 | cons v vs ih => rw [List.flatMap_cons, List.length_append, ih, List.length_cons]; simp [Bnd.cells]; omega
theorem Bnds.cases {w : World} {v : Value} {vs : List Bnd} (h : Bnds w v vs) :
  vs.length ≤ maxLen ∧ ((∃ a cap, v = .slice a 0 cap ∧ vs = []) ∨
  ∃ b off cap, v = .slice (some ⟨b, off, none⟩) vs.length cap ∧ 0 < vs.length ∧ b < w.heap.size ∧ ∀ j (h : j < vs.length), w.cell? ⟨b, off + j * 5, none⟩ = some (.int .i64 vs[j].op) ∧
   w.cell? ⟨b, off + j * 5 + 1, none⟩ = some (.int .i64 vs[j].v.a) ∧ w.cell? ⟨b, off + j * 5 + 2, none⟩ = some (.int .i64 vs[j].v.b) ∧ w.cell? ⟨b, off + j * 5 + 3, none⟩ = some (.int .i64 vs[j].v.c) ∧
   w.cell? ⟨b, off + j * 5 + 4, none⟩ = some (.string vs[j].v.p)) := by
 obtain ⟨h1, h2, ⟨a, cap, h3, h4, _⟩ | ⟨b, off, cap, h3, h4, h5, h6⟩⟩ := h
 ·exact ⟨h2, .inl ⟨a, cap, h3, List.eq_nil_of_length_eq_zero h4⟩⟩
 ·refine ⟨h2, .inr ⟨b, off, cap, h3, h4, h5, fun j hj => ?_⟩⟩
  have g := fun i hi => (h6 (j * 5 + i) (by omega)).trans (bnds_get vs j hj i hi)
  refine ⟨?_, ?_, ?_, ?_, ?_⟩
  ·have := g 0 (by omega); simpa [Bnd.cells] using this
  ·have := g 1 (by omega); simpa [Bnd.cells, Nat.add_assoc] using this
  ·have := g 2 (by omega); simpa [Bnd.cells, Nat.add_assoc] using this
  ·have := g 3 (by omega); simpa [Bnd.cells, Nat.add_assoc] using this
  ·have := g 4 (by omega); simpa [Bnd.cells, Nat.add_assoc] using this
theorem Bnds.of_owns {w : World} {base : Nat} {e : TypeId} {v : Value} {n : Nat} {bs : List Bnd} (h : w.ownsRow base e 5 v n (bs.flatMap Bnd.cells)) : Bnds w v bs := by
 have h1 : n = bs.length := by have := h.1; rw [bnds_len] at this; omega
 subst h1; exact Row.of_owns h
def V4.ok (v : V4) : Bool := verOk v.a v.b v.c v.p.data.toList
def V4.show (v : V4) : List UInt8 := showL v.a.toNat v.b.toNat v.c.toNat v.p.data.toList
def opOk (op : Int) : Bool := decide (1 ≤ op) && decide (op ≤ 5)
def signL (op : Int) : List UInt8 := if op = 1 then [60] else if op = 2 then [60, 61] else if op = 3 then [61] else if op = 4 then [62, 61] else if op = 5 then [62] else []
def Bnd.ok (b : Bnd) : Bool := opOk b.op && b.v.ok
def Bnd.show (b : Bnd) : List UInt8 := signL b.op ++ b.v.show
def rangeOk (bs : List Bnd) : Bool := decide (bs.length ≤ 20) && bs.all Bnd.ok
def rangeErr (bs : List Bnd) : Int := if rangeOk bs then 0 else 50
def showB (bs : List Bnd) : List UInt8 := joinAt 32 (bs.map Bnd.show)
def V4.next (v : V4) : V4 := if v.a = 0 then ⟨0, v.b + 1, 0, ⟨#[]⟩⟩ else ⟨v.a + 1, 0, 0, ⟨#[]⟩⟩
def near (v : V4) : List Bnd := if v.ok && v.next.ok then [⟨4, v⟩, ⟨1, v.next⟩] else [⟨3, v⟩]
def meets1 (v : V4) (b : Bnd) : Bool :=
 if b.op = 1 then decide (V4.cmp v b.v < 0) else if b.op = 2 then decide (V4.cmp v b.v ≤ 0) else if b.op = 3 then decide (V4.cmp v b.v = 0) else if b.op = 4 then decide (0 ≤ V4.cmp v b.v) else if b.op = 5 then decide (0 < V4.cmp v b.v) else false
def meetsR (v : V4) (bs : List Bnd) : Bool := bs.all (meets1 v)
/-- a text is a version's -/
def V4.IsShow (v : V4) (l : List UInt8) : Prop := v.ok = true ∧ v.show = l
theorem V4.ext' {x y : V4} (h1 : x.a = y.a) (h2 : x.b = y.b) (h3 : x.c = y.c) (h4 : x.p.data.toList = y.p.data.toList) : x = y := by
 obtain ⟨a, b, c, p⟩ := x
 obtain ⟨a', b', c', p'⟩ := y
 simp only at h1 h2 h3 h4
 subst h1 h2 h3
 have : p = p' := ByteArray.ext (Array.toList_inj.1 h4)
 subst this; rfl
theorem V4.isShow_inj {x y : V4} {l : List UInt8} (h : x.IsShow l) (h' : y.IsShow l) : x = y := by
 have b1 := verOk_bounds h.1
 have b2 := verOk_bounds h'.1
 have := showL_inj (by omega) (by omega) (by omega) (by omega) (by omega) (by omega) (h.2.trans h'.2.symm)
 exact V4.ext' (by omega) (by omega) (by omega) this.2.2.2
/-- the signs' bytes -/
def isSign (c : UInt8) : Bool := decide (c = 60) || decide (c = 61) || decide (c = 62)
theorem sign_all (op : Int) : (signL op).all isSign = true := by
 unfold signL
 split
 ·decide
 ·split
  ·decide
  ·split
   ·decide
   ·split
    ·decide
    ·split <;> decide
theorem show_head (a b c : Nat) (p : List UInt8) : ∃ x r, showL a b c p = x :: r ∧ Sem4.isDig x = true := by
 cases hd : dig10 a with
 | nil => exact absurd hd (dig10_ne a)
 | cons x r =>
  have h1 := dig10_all a
  rw [hd, List.all_cons, Bool.and_eq_true] at h1
  unfold showL showCore
  rw [hd]
  split
  ·exact ⟨x, _, rfl, h1.1⟩
  ·exact ⟨x, _, rfl, h1.1⟩
theorem take_sign (op : Int) (a b c : Nat) (p : List UInt8) : (signL op ++ showL a b c p).takeWhile isSign = signL op ∧ (signL op ++ showL a b c p).dropWhile isSign = showL a b c p := by
 obtain ⟨x, r, e, hx⟩ := show_head a b c p
 have hs : isSign x = false := by
  simp [Sem4.isDig] at hx
  simp [isSign]
  refine ⟨⟨?_, ?_⟩, ?_⟩ <;> (rintro rfl; simp at hx)
 have h1 := List.all_eq_true.1 (sign_all op)
 rw [e]
 constructor
 ·rw [List.takeWhile_append_of_pos (fun x hx => h1 x hx), List.takeWhile_cons, hs]; simp
 ·rw [List.dropWhile_append_of_pos (fun x hx => h1 x hx), List.dropWhile_cons, hs]; simp
theorem sign_inj {x y : Int} (hx : opOk x = true) (hy : opOk y = true) (h : signL x = signL y) : x = y := by
 simp [opOk] at hx hy
 have h1 : x = 1 ∨ x = 2 ∨ x = 3 ∨ x = 4 ∨ x = 5 := by omega
 have h2 : y = 1 ∨ y = 2 ∨ y = 3 ∨ y = 4 ∨ y = 5 := by omega
 rcases h1 with rfl | rfl | rfl | rfl | rfl <;> rcases h2 with rfl | rfl | rfl | rfl | rfl <;> first | rfl | (revert h; decide)
theorem bnd_inj {x y : Bnd} (hx : x.ok = true) (hy : y.ok = true) (h : x.show = y.show) : x = y := by
 unfold Bnd.ok at hx hy
 rw [Bool.and_eq_true] at hx hy
 unfold Bnd.show V4.show at h
 have h1 := congrArg (List.takeWhile isSign) h
 have h2 := congrArg (List.dropWhile isSign) h
 rw [(take_sign _ _ _ _ _).1, (take_sign _ _ _ _ _).1] at h1
 rw [(take_sign _ _ _ _ _).2, (take_sign _ _ _ _ _).2] at h2
 have e1 := sign_inj hx.1 hy.1 h1
 have e2 : x.v = y.v := V4.isShow_inj (l := showL y.v.a.toNat y.v.b.toNat y.v.c.toNat y.v.p.data.toList) ⟨hx.2, h2⟩ ⟨hy.2, rfl⟩
 obtain ⟨o, v⟩ := x
 obtain ⟨o', v'⟩ := y
 simp only at e1 e2
 rw [e1, e2]
/-- no blank in what is written of a bound that may be -/
theorem show_noBlank {b : Bnd} (h : b.ok = true) : ∀ x ∈ b.show, x ≠ 32 := by
 unfold Bnd.ok at h
 rw [Bool.and_eq_true] at h
 have hb := verOk_bounds h.2
 have hpre := hb.2.2.2.2.2.2.2
 intro x hx
 unfold Bnd.show V4.show at hx
 have hdig : ∀ n, x ∈ dig10 n → x ≠ 32 := by
  rintro n hn rfl
  have := List.all_eq_true.1 (dig10_all n) _ hn
  simp [Sem4.isDig] at this
 have hcore : x ∈ showCore b.v.a.toNat b.v.b.toNat b.v.c.toNat → x ≠ 32 := by
  intro h
  unfold showCore at h
  simp only [List.mem_append, List.mem_singleton] at h
  rcases h with (((h | h) | h) | h) | h
  ·exact hdig _ h
  ·subst h; decide
  ·exact hdig _ h
  ·subst h; decide
  ·exact hdig _ h
 rcases List.mem_append.1 hx with hx | hx
 ·rintro rfl
  have := List.all_eq_true.1 (sign_all b.op) _ hx
  simp [isSign] at this
 ·unfold showL at hx
  cases hne : b.v.p.data.toList.isEmpty
  case true => rw [if_pos hne] at hx; exact hcore hx
  ·rw [if_neg (by rw [hne]; decide), List.append_assoc] at hx
   rcases List.mem_append.1 hx with hx | hx
   ·exact hcore hx
   ·rw [List.singleton_append] at hx
    rcases List.mem_cons.1 hx with hx | hx
    ·subst hx; decide
    ·unfold preOk at hpre
     rw [hne, Bool.false_or] at hpre
     rintro rfl
     have key : ∀ l : List UInt8, (Sem4.dots l).all Sem4.part = true → (32 : UInt8) ∉ l := by
      intro l hl hm
      have : ∃ q ∈ Sem4.dots l, (32 : UInt8) ∈ q := by
       clear hl
       induction l with
       | nil => cases hm
       | cons c l ih =>
        rw [Sem4.dots]
        by_cases hc : c = 46
        ·rw [if_pos hc]
         rcases List.mem_cons.1 hm with h | h
         ·subst h; cases hc
         ·obtain ⟨q, h1, h2⟩ := ih h; exact ⟨q, by simp [h1], h2⟩
        ·rw [if_neg hc]
         cases hd : Sem4.dots l with
         | nil => exact absurd hd (Sem4.dots_ne l)
         | cons p ps =>
          rcases List.mem_cons.1 hm with h | h
          ·exact ⟨c :: p, by simp, by rw [h]; simp⟩
          ·obtain ⟨q, h1, h2⟩ := ih h
           rw [hd] at h1
           rcases List.mem_cons.1 h1 with rfl | h1
           ·exact ⟨c :: q, by simp, by simp [h2]⟩
           ·exact ⟨q, by simp [h1], h2⟩
      obtain ⟨q, h1, h2⟩ := this
      have h3 := List.all_eq_true.1 hl q h1
      unfold Sem4.part at h3
      simp only [Bool.and_eq_true] at h3
      have := List.all_eq_true.1 h3.1.2 _ h2
      revert this; decide
     exact key _ hpre hx
theorem rangeOk_all {bs : List Bnd} (h : rangeOk bs = true) : bs.length ≤ 20 ∧ ∀ b ∈ bs, b.ok = true := by
 unfold rangeOk at h
 rw [Bool.and_eq_true, decide_eq_true_iff, List.all_eq_true] at h
 exact h
theorem showB_sep {bs : List Bnd} (hne : bs ≠ []) (h : ∀ b ∈ bs, b.ok = true) : sepAt 32 (showB bs) = bs.map Bnd.show := by
 refine sepAt_join (by simpa using hne) ?_
 intro p hp
 rw [List.mem_map] at hp
 obtain ⟨b, hb, rfl⟩ := hp
 exact show_noBlank (h b hb)
theorem map_inj_ok : ∀ {xs ys : List Bnd}, (∀ b ∈ xs, b.ok = true) → (∀ b ∈ ys, b.ok = true) → xs.map Bnd.show = ys.map Bnd.show → xs = ys
 | [], [], _, _, _ => rfl
 | [], _ :: _, _, _, h => by simp at h
 | _ :: _, [], _, _, h => by simp at h
 | x :: xs, y :: ys, hx, hy, h => by
  simp only [List.map_cons, List.cons.injEq] at h
  rw [bnd_inj (hx x (by simp)) (hy y (by simp)) h.1, map_inj_ok (fun b hb => hx b (by simp [hb])) (fun b hb => hy b (by simp [hb])) h.2]
/-- what a text tells -/
def RangeIs (l : List UInt8) (bs : List Bnd) : Prop := (l = [42] ∧ bs = []) ∨ (∃ (r : List UInt8) (v : V4), l = 94 :: r ∧ v.IsShow r ∧ bs = near v) ∨ (bs ≠ [] ∧ rangeOk bs = true ∧ showB bs = l)
def RParseIs (l : List UInt8) (bs : List Bnd) (e : Int) : Prop := (e = 0 ∧ RangeIs l bs) ∨ (e = 50 ∧ bs = [] ∧ ∀ bs, ¬ RangeIs l bs)
theorem showB_head {bs : List Bnd} (hne : bs ≠ []) (h : ∀ b ∈ bs, b.ok = true) : ∃ x r, showB bs = x :: r ∧ isSign x = true := by
 cases bs with
 | nil => exact absurd rfl hne
 | cons b bs =>
  have hb := h b (by simp)
  unfold Bnd.ok at hb
  rw [Bool.and_eq_true] at hb
  have h1 : ∃ x r, b.show = x :: r ∧ isSign x = true := by
   unfold Bnd.show
   have h5 := hb.1
   simp [opOk] at h5
   have h2 : b.op = 1 ∨ b.op = 2 ∨ b.op = 3 ∨ b.op = 4 ∨ b.op = 5 := by omega
   rcases h2 with e | e | e | e | e <;> rw [e] <;> exact ⟨_, _, rfl, by decide⟩
  obtain ⟨x, r, e, hx⟩ := h1
  unfold showB
  cases bs with
  | nil => rw [List.map_cons, List.map_nil, joinAt, e]; exact ⟨x, r, rfl, hx⟩
  | cons q qs => rw [List.map_cons, List.map_cons, joinAt, e]; exact ⟨x, _, rfl, hx⟩
theorem RangeIs.uniq {l : List UInt8} {xs ys : List Bnd} (h : RangeIs l xs) (h' : RangeIs l ys) : xs = ys := by
 rcases h with ⟨h1, h2⟩ | ⟨r, v, h1, h2, h3⟩ | ⟨h1, h2, h3⟩ <;> rcases h' with ⟨g1, g2⟩ | ⟨r', v', g1, g2, g3⟩ | ⟨g1, g2, g3⟩
 ·rw [h2, g2]
 ·rw [h1] at g1; simp at g1
 ·obtain ⟨x, t, e, hx⟩ := showB_head g1 (rangeOk_all g2).2
  rw [g3, h1] at e; simp at e; rw [← e.1] at hx; exact absurd hx (by decide)
 ·rw [g1] at h1; simp at h1
 ·rw [h1] at g1; simp at g1; subst g1
  rw [h3, g3, V4.isShow_inj h2 g2]
 ·obtain ⟨x, t, e, hx⟩ := showB_head g1 (rangeOk_all g2).2
  rw [g3, h1] at e; simp at e; rw [← e.1] at hx; exact absurd hx (by decide)
 ·obtain ⟨x, t, e, hx⟩ := showB_head h1 (rangeOk_all h2).2
  rw [h3, g1] at e; simp at e; rw [← e.1] at hx; exact absurd hx (by decide)
 ·obtain ⟨x, t, e, hx⟩ := showB_head h1 (rangeOk_all h2).2
  rw [h3, g1] at e; simp at e; rw [← e.1] at hx; exact absurd hx (by decide)
 ·have e1 := showB_sep h1 (rangeOk_all h2).2
  have e2 := showB_sep g1 (rangeOk_all g2).2
  rw [h3] at e1
  rw [g3] at e2
  exact map_inj_ok (rangeOk_all h2).2 (rangeOk_all g2).2 (e1.symm.trans e2)
theorem RParseIs.uniq {l : List UInt8} {xs ys : List Bnd} {e e' : Int} (h : RParseIs l xs e) (h' : RParseIs l ys e') : xs = ys ∧ e = e' := by
 rcases h with ⟨h1, h2⟩ | ⟨h1, h2, h3⟩ <;> rcases h' with ⟨g1, g2⟩ | ⟨g1, g2, g3⟩
 ·exact ⟨h2.uniq g2, by omega⟩
 ·exact absurd h2 (g3 _)
 ·exact absurd g2 (h3 _)
 ·exact ⟨by rw [h2, g2], by omega⟩
end Go
