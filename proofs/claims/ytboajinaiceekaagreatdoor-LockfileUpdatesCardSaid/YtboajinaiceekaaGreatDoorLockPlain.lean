/- Texts in plain Lean: a text at a byte, and put together again. Ranges in plain Lean: bounds, how they lie, what is written of them, and that it is one-to-one. Names in plain Lean. Commands in plain Lean: words, what arguments must be. The program's table of commands tells what the reference's does. Commands in plain Lean: a text that is cut at a byte; what a command reads as, how it is written; back and forth. Locks as texts, plainly: what is written; what a text is. Locks as texts, plainly: lines; what was written is read as it was; nothing may stand behind; one byte that is another one is seen. Locks as texts, plainly: what the program's Parse looks at. Locks, plainly: what leads from one to another: names in order; two rows side by side. Locks, plainly: what leads from one to another. Locks, plainly: a lock with one byte another one, cut off, or with something behind. Locks, plainly: the lines that lead from one to another, word by word; the other way round. -/
import Derived.Test.YtboajinaiceekaaGreatDoorBase
import Derived.Lib.SplitLaws
import Derived.Lib.IndexBytes
import Derived.Test.YtboajinaiceekaaGreatDoorSemVers
import Derived.Test.YtboajinaiceekaaGreatDoorSemMath
import Derived.Test.YtboajinaiceekaaGreatDoorCrcMath
import Derived.Lib.LastIndexLaws
import Derived.Lib.SlicesCompact
namespace Go
/-- a text at each c -/
def sepAt (c : UInt8) : List UInt8 → List (List UInt8)
  | [] => [[]]
  | x :: l => if x = c then [] :: sepAt c l else match sepAt c l with
    | [] => [[x]]
    | p :: ps => (x :: p) :: ps
theorem sepAt_ne (c : UInt8) (l : List UInt8) : sepAt c l ≠ [] := by
  induction l with
  | nil => simp [sepAt]
  | cons x l ih =>
    unfold sepAt
    split
    · simp
    · split <;> simp
def sepSnoc (c : UInt8) (ps : List (List UInt8)) (x : UInt8) : List (List UInt8) := if x = c then ps ++ [[]] else ps.dropLast ++ [(ps.getLastD []) ++ [x]]
theorem sepAt_snoc (c : UInt8) (l : List UInt8) (y : UInt8) : sepAt c (l ++ [y]) = sepSnoc c (sepAt c l) y := by
  induction l with
  | nil =>
    by_cases h : y = c
    · subst h; simp [sepAt, sepSnoc]
    · simp [sepAt, sepSnoc, h]
  | cons x l ih =>
    rw [List.cons_append]
    have hne := sepAt_ne c l
    by_cases hx : x = c
    · subst hx
      rw [sepAt, if_pos rfl, sepAt, if_pos rfl, ih]
      unfold sepSnoc
      split
      · simp
      · cases hd : sepAt x l with
        | nil => exact absurd hd hne
        | cons p ps => simp
    · rw [sepAt, if_neg hx, ih, sepAt, if_neg hx]
      cases hd : sepAt c l with
      | nil => exact absurd hd hne
      | cons p ps =>
        by_cases hc : y = c
        · simp [sepSnoc, hc]
        · cases ps with
          | nil => simp [sepSnoc, hc]
          | cons q qs => simp [sepSnoc, hc]
theorem sepAt_none {c : UInt8} {l : List UInt8} (h : ∀ x ∈ l, x ≠ c) : sepAt c l = [l] := by
  induction l with
  | nil => rfl
  | cons x l ih => rw [sepAt, if_neg (h x (by simp)), ih (fun y hy => h y (by simp [hy]))]
theorem sepAt_app {c : UInt8} {l : List UInt8} (y : List UInt8) (h : ∀ x ∈ l, x ≠ c) : sepAt c (l ++ c :: y) = l :: sepAt c y := by
  induction l with
  | nil => simp [sepAt]
  | cons x l ih => rw [List.cons_append, sepAt, if_neg (h x (by simp)), ih (fun z hz => h z (by simp [hz]))]
theorem sepAt_count (c : UInt8) (l : List UInt8) : (sepAt c l).length = l.count c + 1 := by
  induction l with
  | nil => rfl
  | cons x l ih =>
    by_cases h : x = c
    · subst h; rw [sepAt, if_pos rfl, List.count_cons_self, List.length_cons, ih]
    · rw [sepAt, if_neg h, List.count_cons_of_ne h]
      split
      · rename_i hd; exact absurd hd (sepAt_ne c l)
      · rename_i hd; rw [hd] at ih; simpa using ih
theorem sepAt_no (c : UInt8) (l : List UInt8) : ∀ p ∈ sepAt c l, ∀ x ∈ p, x ≠ c := by
  induction l with
  | nil => intro p hp x hx; simp [sepAt] at hp; subst hp; cases hx
  | cons y l ih =>
    intro p hp x hx
    by_cases h : y = c
    · rw [sepAt, if_pos h] at hp
      rcases List.mem_cons.1 hp with rfl | hp
      · cases hx
      · exact ih p hp x hx
    · rw [sepAt, if_neg h] at hp
      split at hp
      · simp at hp; subst hp; simp at hx; subst hx; exact h
      · rename_i q qs hq
        rcases List.mem_cons.1 hp with rfl | hp
        · rcases List.mem_cons.1 hx with rfl | hx
          · exact h
          · exact ih q (by rw [hq]; simp) x hx
        · exact ih p (by rw [hq]; simp [hp]) x hx
theorem sepAt_size (c : UInt8) (l : List UInt8) : ∀ p ∈ sepAt c l, p.length ≤ l.length := by
  induction l with
  | nil => simp [sepAt]
  | cons x l ih =>
    unfold sepAt
    split
    · intro p hp
      rcases List.mem_cons.1 hp with rfl | hp
      · simp
      · have := ih p hp; simp; omega
    · split
      · intro p hp; simp at hp; subst hp; simp
      · rename_i q qs h
        rw [h] at ih
        intro p hp
        rcases List.mem_cons.1 hp with rfl | hp
        · have := ih q (by simp); simp; exact this
        · have := ih p (by simp [hp]); simp; omega
/-- pieces with c between -/
def joinAt (c : UInt8) : List (List UInt8) → List UInt8
  | [] => []
  | [p] => p
  | p :: q :: r => p ++ c :: joinAt c (q :: r)
theorem joinAt_sep (c : UInt8) (l : List UInt8) : joinAt c (sepAt c l) = l := by
  induction l with
  | nil => rfl
  | cons x l ih =>
    have hne := sepAt_ne c l
    by_cases h : x = c
    · subst h
      rw [sepAt, if_pos rfl]
      cases hd : sepAt x l with
      | nil => exact absurd hd hne
      | cons p ps => rw [hd] at ih; rw [joinAt, ih]; rfl
    · rw [sepAt, if_neg h]
      cases hd : sepAt c l with
      | nil => exact absurd hd hne
      | cons p ps =>
        rw [hd] at ih
        cases ps with
        | nil => simp [joinAt] at ih ⊢; exact ih
        | cons q qs => rw [joinAt] at ih ⊢; rw [List.cons_append, ih]
theorem sepAt_join {c : UInt8} : ∀ {ls : List (List UInt8)}, ls ≠ [] → (∀ p ∈ ls, ∀ x ∈ p, x ≠ c) → sepAt c (joinAt c ls) = ls
  | [], h, _ => absurd rfl h
  | [p], _, h => by rw [joinAt]; exact sepAt_none (h p (by simp))
  | p :: q :: r, _, h => by
    rw [joinAt, sepAt_app _ (h p (by simp)), sepAt_join (by simp) (fun z hz => h z (by simp at hz ⊢; right; exact hz))]
theorem joinAt_snoc (c : UInt8) : ∀ {ls : List (List UInt8)} (p : List UInt8), ls ≠ [] → joinAt c (ls ++ [p]) = joinAt c ls ++ c :: p
  | [], _, h => absurd rfl h
  | [q], p, _ => rfl
  | q :: s :: r, p, _ => by
    show joinAt c (q :: s :: (r ++ [p])) = _
    rw [joinAt, joinAt, show s :: (r ++ [p]) = (s :: r) ++ [p] from rfl, joinAt_snoc c p (by simp), List.append_assoc]; rfl
theorem splitK_sep (c : UInt8) (n : Nat) : ∀ (l : List UInt8), l.length ≤ n → Lib.splitK [c] 0 (l.count c) l = sepAt c l := by
  induction n with
  | zero => intro l h; obtain rfl : l = [] := List.eq_nil_of_length_eq_zero (by omega); rfl
  | succ n ih =>
    intro l hl
    cases hc : l.count c with
    | zero =>
      have hn : ∀ x ∈ l, x ≠ c := by
        rintro x hx rfl
        have := List.count_pos_iff.2 hx
        omega
      rw [sepAt_none hn]; rfl
    | succ k =>
      have hm : c ∈ l := List.count_pos_iff.1 (by omega)
      obtain ⟨x, y, rfl, hx⟩ : ∃ x y, l = x ++ c :: y ∧ ∀ z ∈ x, z ≠ c := by
        clear hl hc
        induction l with
        | nil => cases hm
        | cons a l ih =>
          by_cases ha : a = c
          · subst ha; exact ⟨[], l, rfl, by simp⟩
          · obtain ⟨x, y, h1, h2⟩ := ih (by rcases List.mem_cons.1 hm with h | h; exact absurd h.symm ha; exact h)
            refine ⟨a :: x, y, by rw [h1]; rfl, fun z hz => ?_⟩
            rcases List.mem_cons.1 hz with rfl | h
            · exact ha
            · exact h2 z h
      have hx0 : x.count c = 0 := List.count_eq_zero.2 (fun h => hx _ h rfl)
      rw [List.count_append, hx0, List.count_cons_self] at hc
      have hi : Lib.index (x ++ c :: y) [c] = (x.length : Int) := by
        rw [Lib.index_one]
        clear hl hc hm hx0
        induction x with
        | nil => simp [Lib.indexByte]
        | cons a x ih =>
          have := ih (fun z hz => hx z (by simp [hz]))
          have ha := hx a (by simp)
          have hb : (a == c) = false := by simpa using ha
          rw [List.cons_append, Lib.indexByte, hb, this]
          have : ((x.length : Int) == -1) = false := by simp
          rw [this]
          simp
      rw [sepAt_app y hx]
      unfold Lib.splitK
      have : ((x.length : Int) == -1) = false := by simp
      rw [hi, this]
      simp only [Int.toNat_natCast, Nat.add_zero, List.length_singleton, Bool.false_eq_true, if_false]
      rw [List.take_left', show (x ++ c :: y).drop (x.length + 1) = y by simp]
      · have hk : k = y.count c := by omega
        rw [hk, ih y (by simp at hl; omega)]
      · rfl
theorem split_sep (c : UInt8) (s : ByteArray) : (Lib.splitB ⟨#[c]⟩ 0 (Lib.countB s ⟨#[c]⟩) s) = (sepAt c s.data.toList).map S := by
  have h := Lib.splitB_data ⟨#[c]⟩ 0 (Lib.countB s ⟨#[c]⟩) s
  have hc : Lib.countB s ⟨#[c]⟩ = s.data.toList.count c := by
    show Lib.count _ _ = _
    exact Lib.count_one c _
  rw [hc] at h ⊢
  rw [show (⟨#[c]⟩ : ByteArray).data.toList = [c] from rfl, splitK_sep _ _ _ (Nat.le_refl _)] at h
  have := congrArg (List.map S) h
  rw [List.map_map] at this
  rw [← this]
  conv => lhs; rw [← List.map_id (Lib.splitB _ _ _ _)]
  rfl
theorem countB_sep (c : UInt8) (s : ByteArray) : Lib.countB s ⟨#[c]⟩ + 1 = (sepAt c s.data.toList).length := by
  rw [sepAt_count]
  have : Lib.countB s ⟨#[c]⟩ = s.data.toList.count c := by
    show Lib.count _ _ = _
    exact Lib.count_one c _
  rw [this]
end Go

namespace Go
open Go.RowKit
/-- a bound -/
structure Bnd where
  op : Int
  v : V4
def Bnd.cells (b : Bnd) : List Value := [.int .i64 b.op, .int .i64 b.v.a, .int .i64 b.v.b, .int .i64 b.v.c, .string b.v.p]
def Bnds (w : World) (v : Value) (bs : List Bnd) : Prop := Row w 5 v bs.length (bs.flatMap Bnd.cells)
theorem Bnds.below {w w' : World} {v : Value} {bs : List Bnd} (h : Bnds w v bs) {B : Nat} (hb : Below B w w') (hB : w.heap.size ≤ B) : Bnds w' v bs := Row.below h hb hB
theorem bnds_get (vs : List Bnd) : ∀ (j : Nat) (h : j < vs.length) (i : Nat), i < 5 → (vs.flatMap Bnd.cells)[j * 5 + i]? = (vs[j].cells)[i]? := by
  induction vs with
  | nil => intro j h; cases h
  | cons v vs ih =>
    intro j h i hi
    rw [List.flatMap_cons]
    cases j with
    | zero =>
      have : i < v.cells.length := hi
      rw [Nat.zero_mul, Nat.zero_add, List.getElem?_append_left this]; rfl
    | succ j =>
      have hl : v.cells.length = 5 := rfl
      rw [List.getElem?_append_right (by rw [hl]; omega), hl, show (j + 1) * 5 + i - 5 = j * 5 + i by omega, ih j (by simpa using h) i hi]
      rfl
theorem bnds_len (vs : List Bnd) : (vs.flatMap Bnd.cells).length = vs.length * 5 := by
  induction vs with
  | nil => rfl
  | cons v vs ih => rw [List.flatMap_cons, List.length_append, ih, List.length_cons]; simp [Bnd.cells]; omega
theorem Bnds.cases {w : World} {v : Value} {vs : List Bnd} (h : Bnds w v vs) :
    vs.length ≤ maxLen ∧ ((∃ a cap, v = .slice a 0 cap ∧ vs = []) ∨
    ∃ b off cap, v = .slice (some ⟨b, off, none⟩) vs.length cap ∧ 0 < vs.length ∧ b < w.heap.size ∧ ∀ j (h : j < vs.length), w.cell? ⟨b, off + j * 5, none⟩ = some (.int .i64 vs[j].op) ∧
      w.cell? ⟨b, off + j * 5 + 1, none⟩ = some (.int .i64 vs[j].v.a) ∧ w.cell? ⟨b, off + j * 5 + 2, none⟩ = some (.int .i64 vs[j].v.b) ∧ w.cell? ⟨b, off + j * 5 + 3, none⟩ = some (.int .i64 vs[j].v.c) ∧
      w.cell? ⟨b, off + j * 5 + 4, none⟩ = some (.string vs[j].v.p)) := by
  obtain ⟨h1, h2, ⟨a, cap, h3, h4, _⟩ | ⟨b, off, cap, h3, h4, h5, h6⟩⟩ := h
  · exact ⟨h2, .inl ⟨a, cap, h3, List.eq_nil_of_length_eq_zero h4⟩⟩
  · refine ⟨h2, .inr ⟨b, off, cap, h3, h4, h5, fun j hj => ?_⟩⟩
    have g := fun i hi => (h6 (j * 5 + i) (by omega)).trans (bnds_get vs j hj i hi)
    refine ⟨?_, ?_, ?_, ?_, ?_⟩
    · have := g 0 (by omega); simpa [Bnd.cells] using this
    · have := g 1 (by omega); simpa [Bnd.cells, Nat.add_assoc] using this
    · have := g 2 (by omega); simpa [Bnd.cells, Nat.add_assoc] using this
    · have := g 3 (by omega); simpa [Bnd.cells, Nat.add_assoc] using this
    · have := g 4 (by omega); simpa [Bnd.cells, Nat.add_assoc] using this
theorem bnds_new (w : World) (vs : List Bnd) (T : TypeId) (cap B n : Nat) (cs : Array Value) (hB : B = w.heap.size) (hcs : cs = (vs.flatMap Bnd.cells).toArray) (hn' : n = vs.length) (hn : 0 < vs.length) (hm : vs.length ≤ maxLen) :
    Bnds (w.alloc (.cells cs T)) (.slice (some ⟨B, 0, none⟩) n cap) vs := by
  subst hB hcs hn'
  refine ⟨by rw [bnds_len], hm, .inr ⟨w.heap.size, 0, cap, rfl, hn, by simp, fun j hj => ?_⟩⟩
  simp only [World.cell?, Below_heap_new, Nat.zero_add, Option.isSome_none, Bool.false_eq_true, if_false]
  simp
theorem Bnds.of_owns {w : World} {base : Nat} {e : TypeId} {v : Value} {n : Nat} {bs : List Bnd} (h : w.ownsRow base e 5 v n (bs.flatMap Bnd.cells)) : Bnds w v bs := by
  have h1 : n = bs.length := by have := h.1; rw [bnds_len] at this; omega
  subst h1; exact Row.of_owns h
def V4.ok (v : V4) : Bool := verOk v.a v.b v.c v.p.data.toList
def V4.show (v : V4) : List UInt8 := showL v.a.toNat v.b.toNat v.c.toNat v.p.data.toList
def opOk (op : Int) : Bool := decide (1 ≤ op) && decide (op ≤ 5)
def signL (op : Int) : List UInt8 := if op = 1 then [60] else if op = 2 then [60, 61] else if op = 3 then [61] else if op = 4 then [62, 61] else if op = 5 then [62] else []
def Bnd.ok (b : Bnd) : Bool := opOk b.op && b.v.ok
def Bnd.show (b : Bnd) : List UInt8 := signL b.op ++ b.v.show
def rangeOk (bs : List Bnd) : Bool := decide (bs.length ≤ 20) && bs.all Bnd.ok
def rangeErr (bs : List Bnd) : Int := if rangeOk bs then 0 else 50
def showB (bs : List Bnd) : List UInt8 := joinAt 32 (bs.map Bnd.show)
def showR (bs : List Bnd) : List UInt8 := if bs.isEmpty then [42] else showB bs
def V4.next (v : V4) : V4 := if v.a = 0 then ⟨0, v.b + 1, 0, ⟨#[]⟩⟩ else ⟨v.a + 1, 0, 0, ⟨#[]⟩⟩
def near (v : V4) : List Bnd := if v.ok && v.next.ok then [⟨4, v⟩, ⟨1, v.next⟩] else [⟨3, v⟩]
def meets1 (v : V4) (b : Bnd) : Bool :=
  if b.op = 1 then decide (V4.cmp v b.v < 0) else if b.op = 2 then decide (V4.cmp v b.v ≤ 0) else if b.op = 3 then decide (V4.cmp v b.v = 0) else if b.op = 4 then decide (0 ≤ V4.cmp v b.v) else if b.op = 5 then decide (0 < V4.cmp v b.v) else false
def meetsR (v : V4) (bs : List Bnd) : Bool := bs.all (meets1 v)
/-- a text is a version's -/
def V4.IsShow (v : V4) (l : List UInt8) : Prop := v.ok = true ∧ v.show = l
theorem V4.ext' {x y : V4} (h1 : x.a = y.a) (h2 : x.b = y.b) (h3 : x.c = y.c) (h4 : x.p.data.toList = y.p.data.toList) : x = y := by
  obtain ⟨a, b, c, p⟩ := x
  obtain ⟨a', b', c', p'⟩ := y
  simp only at h1 h2 h3 h4
  subst h1 h2 h3
  have : p = p' := ByteArray.ext (Array.toList_inj.1 h4)
  subst this; rfl
theorem V4.isShow_inj {x y : V4} {l : List UInt8} (h : x.IsShow l) (h' : y.IsShow l) : x = y := by
  have b1 := verOk_bounds h.1
  have b2 := verOk_bounds h'.1
  have := showL_inj (by omega) (by omega) (by omega) (by omega) (by omega) (by omega) (h.2.trans h'.2.symm)
  exact V4.ext' (by omega) (by omega) (by omega) this.2.2.2
/-- the signs' bytes -/
def isSign (c : UInt8) : Bool := decide (c = 60) || decide (c = 61) || decide (c = 62)
theorem sign_all (op : Int) : (signL op).all isSign = true := by
  unfold signL
  split
  · decide
  · split
    · decide
    · split
      · decide
      · split
        · decide
        · split <;> decide
theorem show_head (a b c : Nat) (p : List UInt8) : ∃ x r, showL a b c p = x :: r ∧ Sem4.isDig x = true := by
  cases hd : dig10 a with
  | nil => exact absurd hd (dig10_ne a)
  | cons x r =>
    have h1 := dig10_all a
    rw [hd, List.all_cons, Bool.and_eq_true] at h1
    unfold showL showCore
    rw [hd]
    split
    · exact ⟨x, _, rfl, h1.1⟩
    · exact ⟨x, _, rfl, h1.1⟩
theorem take_sign (op : Int) (a b c : Nat) (p : List UInt8) : (signL op ++ showL a b c p).takeWhile isSign = signL op ∧ (signL op ++ showL a b c p).dropWhile isSign = showL a b c p := by
  obtain ⟨x, r, e, hx⟩ := show_head a b c p
  have hs : isSign x = false := by
    simp [Sem4.isDig] at hx
    simp [isSign]
    refine ⟨⟨?_, ?_⟩, ?_⟩ <;> (rintro rfl; simp at hx)
  have h1 := List.all_eq_true.1 (sign_all op)
  rw [e]
  constructor
  · rw [List.takeWhile_append_of_pos (fun x hx => h1 x hx), List.takeWhile_cons, hs]; simp
  · rw [List.dropWhile_append_of_pos (fun x hx => h1 x hx), List.dropWhile_cons, hs]; simp
theorem sign_inj {x y : Int} (hx : opOk x = true) (hy : opOk y = true) (h : signL x = signL y) : x = y := by
  simp [opOk] at hx hy
  have h1 : x = 1 ∨ x = 2 ∨ x = 3 ∨ x = 4 ∨ x = 5 := by omega
  have h2 : y = 1 ∨ y = 2 ∨ y = 3 ∨ y = 4 ∨ y = 5 := by omega
  rcases h1 with rfl | rfl | rfl | rfl | rfl <;> rcases h2 with rfl | rfl | rfl | rfl | rfl <;> first | rfl | (revert h; decide)
theorem bnd_inj {x y : Bnd} (hx : x.ok = true) (hy : y.ok = true) (h : x.show = y.show) : x = y := by
  unfold Bnd.ok at hx hy
  rw [Bool.and_eq_true] at hx hy
  unfold Bnd.show V4.show at h
  have h1 := congrArg (List.takeWhile isSign) h
  have h2 := congrArg (List.dropWhile isSign) h
  rw [(take_sign _ _ _ _ _).1, (take_sign _ _ _ _ _).1] at h1
  rw [(take_sign _ _ _ _ _).2, (take_sign _ _ _ _ _).2] at h2
  have e1 := sign_inj hx.1 hy.1 h1
  have e2 : x.v = y.v := V4.isShow_inj (l := showL y.v.a.toNat y.v.b.toNat y.v.c.toNat y.v.p.data.toList) ⟨hx.2, h2⟩ ⟨hy.2, rfl⟩
  obtain ⟨o, v⟩ := x
  obtain ⟨o', v'⟩ := y
  simp only at e1 e2
  rw [e1, e2]
/-- no blank in what is written of a bound that may be -/
theorem show_noBlank {b : Bnd} (h : b.ok = true) : ∀ x ∈ b.show, x ≠ 32 := by
  unfold Bnd.ok at h
  rw [Bool.and_eq_true] at h
  have hb := verOk_bounds h.2
  have hpre := hb.2.2.2.2.2.2.2
  intro x hx
  unfold Bnd.show V4.show at hx
  have hdig : ∀ n, x ∈ dig10 n → x ≠ 32 := by
    rintro n hn rfl
    have := List.all_eq_true.1 (dig10_all n) _ hn
    simp [Sem4.isDig] at this
  have hcore : x ∈ showCore b.v.a.toNat b.v.b.toNat b.v.c.toNat → x ≠ 32 := by
    intro h
    unfold showCore at h
    simp only [List.mem_append, List.mem_singleton] at h
    rcases h with (((h | h) | h) | h) | h
    · exact hdig _ h
    · subst h; decide
    · exact hdig _ h
    · subst h; decide
    · exact hdig _ h
  rcases List.mem_append.1 hx with hx | hx
  · rintro rfl
    have := List.all_eq_true.1 (sign_all b.op) _ hx
    simp [isSign] at this
  · unfold showL at hx
    cases hne : b.v.p.data.toList.isEmpty
    case true => rw [if_pos hne] at hx; exact hcore hx
    · rw [if_neg (by rw [hne]; decide), List.append_assoc] at hx
      rcases List.mem_append.1 hx with hx | hx
      · exact hcore hx
      · rw [List.singleton_append] at hx
        rcases List.mem_cons.1 hx with hx | hx
        · subst hx; decide
        · unfold preOk at hpre
          rw [hne, Bool.false_or] at hpre
          rintro rfl
          have key : ∀ l : List UInt8, (Sem4.dots l).all Sem4.part = true → (32 : UInt8) ∉ l := by
            intro l hl hm
            have : ∃ q ∈ Sem4.dots l, (32 : UInt8) ∈ q := by
              clear hl
              induction l with
              | nil => cases hm
              | cons c l ih =>
                rw [Sem4.dots]
                by_cases hc : c = 46
                · rw [if_pos hc]
                  rcases List.mem_cons.1 hm with h | h
                  · subst h; cases hc
                  · obtain ⟨q, h1, h2⟩ := ih h; exact ⟨q, by simp [h1], h2⟩
                · rw [if_neg hc]
                  cases hd : Sem4.dots l with
                  | nil => exact absurd hd (Sem4.dots_ne l)
                  | cons p ps =>
                    rcases List.mem_cons.1 hm with h | h
                    · exact ⟨c :: p, by simp, by rw [h]; simp⟩
                    · obtain ⟨q, h1, h2⟩ := ih h
                      rw [hd] at h1
                      rcases List.mem_cons.1 h1 with rfl | h1
                      · exact ⟨c :: q, by simp, by simp [h2]⟩
                      · exact ⟨q, by simp [h1], h2⟩
            obtain ⟨q, h1, h2⟩ := this
            have h3 := List.all_eq_true.1 hl q h1
            unfold Sem4.part at h3
            simp only [Bool.and_eq_true] at h3
            have := List.all_eq_true.1 h3.1.2 _ h2
            revert this; decide
          exact key _ hpre hx
theorem rangeOk_all {bs : List Bnd} (h : rangeOk bs = true) : bs.length ≤ 20 ∧ ∀ b ∈ bs, b.ok = true := by
  unfold rangeOk at h
  rw [Bool.and_eq_true, decide_eq_true_iff, List.all_eq_true] at h
  exact h
theorem showB_sep {bs : List Bnd} (hne : bs ≠ []) (h : ∀ b ∈ bs, b.ok = true) : sepAt 32 (showB bs) = bs.map Bnd.show := by
  refine sepAt_join (by simpa using hne) ?_
  intro p hp
  rw [List.mem_map] at hp
  obtain ⟨b, hb, rfl⟩ := hp
  exact show_noBlank (h b hb)
theorem map_inj_ok : ∀ {xs ys : List Bnd}, (∀ b ∈ xs, b.ok = true) → (∀ b ∈ ys, b.ok = true) → xs.map Bnd.show = ys.map Bnd.show → xs = ys
  | [], [], _, _, _ => rfl
  | [], _ :: _, _, _, h => by simp at h
  | _ :: _, [], _, _, h => by simp at h
  | x :: xs, y :: ys, hx, hy, h => by
    simp only [List.map_cons, List.cons.injEq] at h
    rw [bnd_inj (hx x (by simp)) (hy y (by simp)) h.1, map_inj_ok (fun b hb => hx b (by simp [hb])) (fun b hb => hy b (by simp [hb])) h.2]
/-- what a text tells -/
def RangeIs (l : List UInt8) (bs : List Bnd) : Prop := (l = [42] ∧ bs = []) ∨ (∃ (r : List UInt8) (v : V4), l = 94 :: r ∧ v.IsShow r ∧ bs = near v) ∨ (bs ≠ [] ∧ rangeOk bs = true ∧ showB bs = l)
def RParseIs (l : List UInt8) (bs : List Bnd) (e : Int) : Prop := (e = 0 ∧ RangeIs l bs) ∨ (e = 50 ∧ bs = [] ∧ ∀ bs, ¬ RangeIs l bs)
theorem showB_head {bs : List Bnd} (hne : bs ≠ []) (h : ∀ b ∈ bs, b.ok = true) : ∃ x r, showB bs = x :: r ∧ isSign x = true := by
  cases bs with
  | nil => exact absurd rfl hne
  | cons b bs =>
    have hb := h b (by simp)
    unfold Bnd.ok at hb
    rw [Bool.and_eq_true] at hb
    have h1 : ∃ x r, b.show = x :: r ∧ isSign x = true := by
      unfold Bnd.show
      have h5 := hb.1
      simp [opOk] at h5
      have h2 : b.op = 1 ∨ b.op = 2 ∨ b.op = 3 ∨ b.op = 4 ∨ b.op = 5 := by omega
      rcases h2 with e | e | e | e | e <;> rw [e] <;> exact ⟨_, _, rfl, by decide⟩
    obtain ⟨x, r, e, hx⟩ := h1
    unfold showB
    cases bs with
    | nil => rw [List.map_cons, List.map_nil, joinAt, e]; exact ⟨x, r, rfl, hx⟩
    | cons q qs => rw [List.map_cons, List.map_cons, joinAt, e]; exact ⟨x, _, rfl, hx⟩
theorem RangeIs.uniq {l : List UInt8} {xs ys : List Bnd} (h : RangeIs l xs) (h' : RangeIs l ys) : xs = ys := by
  rcases h with ⟨h1, h2⟩ | ⟨r, v, h1, h2, h3⟩ | ⟨h1, h2, h3⟩ <;> rcases h' with ⟨g1, g2⟩ | ⟨r', v', g1, g2, g3⟩ | ⟨g1, g2, g3⟩
  · rw [h2, g2]
  · rw [h1] at g1; simp at g1
  · obtain ⟨x, t, e, hx⟩ := showB_head g1 (rangeOk_all g2).2
    rw [g3, h1] at e; simp at e; rw [← e.1] at hx; exact absurd hx (by decide)
  · rw [g1] at h1; simp at h1
  · rw [h1] at g1; simp at g1; subst g1
    rw [h3, g3, V4.isShow_inj h2 g2]
  · obtain ⟨x, t, e, hx⟩ := showB_head g1 (rangeOk_all g2).2
    rw [g3, h1] at e; simp at e; rw [← e.1] at hx; exact absurd hx (by decide)
  · obtain ⟨x, t, e, hx⟩ := showB_head h1 (rangeOk_all h2).2
    rw [h3, g1] at e; simp at e; rw [← e.1] at hx; exact absurd hx (by decide)
  · obtain ⟨x, t, e, hx⟩ := showB_head h1 (rangeOk_all h2).2
    rw [h3, g1] at e; simp at e; rw [← e.1] at hx; exact absurd hx (by decide)
  · have e1 := showB_sep h1 (rangeOk_all h2).2
    have e2 := showB_sep g1 (rangeOk_all g2).2
    rw [h3] at e1
    rw [g3] at e2
    exact map_inj_ok (rangeOk_all h2).2 (rangeOk_all g2).2 (e1.symm.trans e2)
theorem RParseIs.uniq {l : List UInt8} {xs ys : List Bnd} {e e' : Int} (h : RParseIs l xs e) (h' : RParseIs l ys e') : xs = ys ∧ e = e' := by
  rcases h with ⟨h1, h2⟩ | ⟨h1, h2, h3⟩ <;> rcases h' with ⟨g1, g2⟩ | ⟨g1, g2, g3⟩
  · exact ⟨h2.uniq g2, by omega⟩
  · exact absurd h2 (g3 _)
  · exact absurd g2 (h3 _)
  · exact ⟨by rw [h2, g2], by omega⟩
end Go

namespace Go
def smallC (c : UInt8) : Bool := decide (97 ≤ c.toNat) && decide (c.toNat ≤ 122)
def greatC (c : UInt8) : Bool := decide (65 ≤ c.toNat) && decide (c.toNat ≤ 90)
def restC (c : UInt8) : Bool := smallC c || greatC c || Sem4.isDig c || decide (c.toNat = 95)
/-- the words that are kept -/
def keptL : List (List UInt8) := [[109, 111, 100, 117, 108, 101], [105, 109, 112, 111, 114, 116], [112, 105, 110], [114, 97, 110, 103, 101], [116, 121, 112, 101], [111, 112, 97, 113, 117, 101], [108, 101, 116], [105, 110], [101, 120, 112, 111, 114, 116], [102, 117, 110], [105, 102], [116, 104, 101, 110], [101, 108, 115, 101], [99, 97, 115, 101], [111, 102], [97, 115], [110, 101, 119], [114, 97, 119], [116, 114, 117, 101], [102, 97, 108, 115, 101]]
def keptB (l : List UInt8) : Bool := decide (l ∈ keptL)
def headIs (f : UInt8 → Bool) : List UInt8 → Bool
  | [] => false
  | c :: _ => f c
/-- is a text a name? -/
def nameOk (l : List UInt8) : Bool := decide (l.length ≤ 24) && headIs smallC l && l.all restC && !keptB l
theorem small_rest {c : UInt8} (h : smallC c = true) : restC c = true := by unfold restC; rw [h]; rfl
theorem name_len {l : List UInt8} (h : nameOk l = true) : 0 < l.length ∧ l.length ≤ 24 ∧ l.all restC = true ∧ keptB l = false := by
  unfold nameOk at h
  simp only [Bool.and_eq_true, decide_eq_true_eq, Bool.not_eq_true'] at h
  refine ⟨?_, h.1.1.1, h.1.2, h.2⟩
  cases l with
  | nil => exact absurd h.1.1.2 (by decide)
  | cons => simp
theorem rest_not {c x : UInt8} (h : restC c = true) (hx : restC x = false) : c ≠ x := by rintro rfl; rw [h] at hx; cases hx
theorem name_no {l : List UInt8} (h : nameOk l = true) (x : UInt8) (hx : restC x = false) : ∀ c ∈ l, c ≠ x := fun c hc => rest_not (List.all_eq_true.1 (name_len h).2.2.1 c hc) hx
end Go

namespace Go
/-- is a text a version's? -/
noncomputable def isVer (l : List UInt8) : Bool := @decide (∃ v : V4, v.IsShow l) (Classical.propDecidable _)
theorem isVer_true {l : List UInt8} : isVer l = true ↔ ∃ v : V4, v.IsShow l := by unfold isVer; exact @decide_eq_true_iff _ (Classical.propDecidable _)
theorem isVer_parse {l : List UInt8} {a b c : Int} {p : List UInt8} {er : Int} (h : ParseIs l a b c p er) : (er = 0 ∧ isVer l = true) ∨ (er = 40 ∧ isVer l = false) := by
  rcases h with ⟨h, hs⟩ | ⟨h, _, _, _, _, hn⟩
  · exact .inl ⟨h, isVer_true.2 ⟨⟨a, b, c, S p⟩, hs.1, hs.2⟩⟩
  · refine .inr ⟨h, ?_⟩
    rw [Bool.eq_false_iff]
    intro ht
    obtain ⟨v, hv⟩ := isVer_true.1 ht
    exact hn _ _ _ _ ⟨hv.1, hv.2⟩
def stepsOk (l : List UInt8) : Bool := decide (1 ≤ l.length) && decide (l.length ≤ 7) && l.all Sem4.isDig && (decide (l = [48]) || decide (l.head? ≠ some 48))
noncomputable def fitsB (l : List UInt8) (kind : UInt8) : Bool := if kind = 110 then nameOk l else if kind = 118 then isVer l else stepsOk l
noncomputable def allFit : List (List UInt8) → List UInt8 → Bool
  | [], [] => true
  | a :: as, k :: ks => fitsB a k && allFit as ks
  | _, _ => false
def wRegister : List UInt8 := [114, 101, 103, 105, 115, 116, 101, 114]
def wPublish : List UInt8 := [112, 117, 98, 108, 105, 115, 104]
def wYank : List UInt8 := [121, 97, 110, 107]
def wUnyank : List UInt8 := [117, 110, 121, 97, 110, 107]
def wDeprecate : List UInt8 := [100, 101, 112, 114, 101, 99, 97, 116, 101]
def wQuery : List UInt8 := [113, 117, 101, 114, 121]
def wDiff : List UInt8 := [100, 105, 102, 102]
def wResolve : List UInt8 := [114, 101, 115, 111, 108, 118, 101]
def wRecheck : List UInt8 := [114, 101, 99, 104, 101, 99, 107]
/-- the program's table: word, kinds, body -/
def forms : List (List UInt8 × List UInt8 × Bool) := [(wRegister, [110, 110], false), (wPublish, [110, 118], true), (wYank, [110, 110, 118], false), (wUnyank, [110, 110, 118], false), (wDeprecate, [110, 110, 118], true), (wQuery, [110], false), (wQuery, [110, 118], false), (wDiff, [110, 118, 118], false), (wResolve, [115], true), (wRecheck, [110, 118, 110, 118], false)]
noncomputable def formFits (word : List UInt8) (args : List (List UInt8)) (f : List UInt8 × List UInt8 × Bool) : Bool := decide (f.1 = word) && allFit args f.2.1
/-- the first form that fits -/
noncomputable def knownB (word : List UInt8) (args : List (List UInt8)) : Option Bool := (forms.find? (formFits word args)).map fun f => f.2.2
/-- the reference's -/
def kindsOf (word : List UInt8) (n : Nat) : Option (List UInt8) :=
  if word = wRegister then (if n = 2 then some [110, 110] else none)
  else if word = wPublish then (if n = 2 then some [110, 118] else none)
  else if word = wYank ∨ word = wUnyank ∨ word = wDeprecate then (if n = 3 then some [110, 110, 118] else none)
  else if word = wQuery then (if n = 1 then some [110] else if n = 2 then some [110, 118] else none)
  else if word = wDiff then (if n = 3 then some [110, 118, 118] else none)
  else if word = wResolve then (if n = 1 then some [115] else none)
  else if word = wRecheck then (if n = 4 then some [110, 118, 110, 118] else none)
  else none
noncomputable def rightB (word : List UInt8) (args : List (List UInt8)) : Bool :=
  match kindsOf word args.length with
  | some ks => allFit args ks
  | none => false
def hasBody (word : List UInt8) : Bool := decide (word = wPublish) || decide (word = wDeprecate) || decide (word = wResolve)
theorem allFit_len : ∀ {as : List (List UInt8)} {ks : List UInt8}, as.length ≠ ks.length → allFit as ks = false
  | [], [], h => absurd rfl h
  | [], _ :: _, _ => rfl
  | _ :: _, [], _ => rfl
  | a :: as, k :: ks, h => by
    have : as.length ≠ ks.length := by simpa using h
    rw [allFit, allFit_len this, Bool.and_false]
end Go

namespace Go
theorem find_form {α : Type} (f : α → Bool) (x : α) (xs : List α) : (x :: xs).find? f = if f x then some x else xs.find? f := by
  rw [List.find?_cons]; cases f x <;> rfl
theorem not_known {word : List UInt8} (args : List (List UInt8)) (h : ∀ f ∈ forms, f.1 ≠ word) : knownB word args = none := by
  unfold knownB
  have : forms.find? (formFits word args) = none := by
    rw [List.find?_eq_none]
    intro f hf
    unfold formFits
    rw [decide_eq_false (h f hf)]; simp
  rw [this]; rfl
theorem known_right (word : List UInt8) (args : List (List UInt8)) : knownB word args = if rightB word args then some (hasBody word) else none := by
  by_cases h1 : word = wRegister
  · subst h1
    by_cases hn : args.length = 2
    · simp [knownB, rightB, kindsOf, hasBody, forms, find_form, formFits, hn, wRegister, wPublish, wYank, wUnyank, wDeprecate, wQuery, wDiff, wResolve, wRecheck]
    · have e : allFit args [110, 110] = false := allFit_len hn
      simp [knownB, rightB, kindsOf, forms, formFits, hn, e, wRegister, wPublish, wYank, wUnyank, wDeprecate, wQuery, wDiff, wResolve, wRecheck]
  by_cases h2 : word = wPublish
  · subst h2
    by_cases hn : args.length = 2
    · simp [knownB, rightB, kindsOf, hasBody, forms, find_form, formFits, hn, wRegister, wPublish, wYank, wUnyank, wDeprecate, wQuery, wDiff, wResolve, wRecheck]
    · have e : allFit args [110, 118] = false := allFit_len hn
      simp [knownB, rightB, kindsOf, forms, formFits, hn, e, wRegister, wPublish, wYank, wUnyank, wDeprecate, wQuery, wDiff, wResolve, wRecheck]
  by_cases h3 : word = wYank ∨ word = wUnyank ∨ word = wDeprecate
  · have h6 : word ≠ wQuery := by rintro rfl; revert h3; decide
    rcases h3 with rfl | rfl | rfl
    all_goals
      by_cases hn : args.length = 3
      · simp [knownB, rightB, kindsOf, hasBody, forms, find_form, formFits, hn, wRegister, wPublish, wYank, wUnyank, wDeprecate, wQuery, wDiff, wResolve, wRecheck]
      · have e : allFit args [110, 110, 118] = false := allFit_len hn
        simp [knownB, rightB, kindsOf, forms, formFits, hn, e, wRegister, wPublish, wYank, wUnyank, wDeprecate, wQuery, wDiff, wResolve, wRecheck]
  by_cases h4 : word = wQuery
  · subst h4
    by_cases hn : args.length = 1
    · have e : allFit args [110, 118] = false := allFit_len (by rw [hn]; decide)
      simp [knownB, rightB, kindsOf, hasBody, forms, find_form, formFits, hn, e, wRegister, wPublish, wYank, wUnyank, wDeprecate, wQuery, wDiff, wResolve, wRecheck]
    · have e : allFit args [110] = false := allFit_len hn
      by_cases hn2 : args.length = 2
      · simp [knownB, rightB, kindsOf, hasBody, forms, find_form, formFits, hn2, e, wRegister, wPublish, wYank, wUnyank, wDeprecate, wQuery, wDiff, wResolve, wRecheck]
      · have e2 : allFit args [110, 118] = false := allFit_len hn2
        simp [knownB, rightB, kindsOf, forms, formFits, hn, hn2, e, e2, wRegister, wPublish, wYank, wUnyank, wDeprecate, wQuery, wDiff, wResolve, wRecheck]
  by_cases h5 : word = wDiff
  · subst h5
    by_cases hn : args.length = 3
    · simp [knownB, rightB, kindsOf, hasBody, forms, find_form, formFits, hn, wRegister, wPublish, wYank, wUnyank, wDeprecate, wQuery, wDiff, wResolve, wRecheck]
    · have e : allFit args [110, 118, 118] = false := allFit_len hn
      simp [knownB, rightB, kindsOf, forms, formFits, hn, e, wRegister, wPublish, wYank, wUnyank, wDeprecate, wQuery, wDiff, wResolve, wRecheck]
  by_cases h6 : word = wResolve
  · subst h6
    by_cases hn : args.length = 1
    · simp [knownB, rightB, kindsOf, hasBody, forms, find_form, formFits, hn, wRegister, wPublish, wYank, wUnyank, wDeprecate, wQuery, wDiff, wResolve, wRecheck]
    · have e : allFit args [115] = false := allFit_len hn
      simp [knownB, rightB, kindsOf, forms, formFits, hn, e, wRegister, wPublish, wYank, wUnyank, wDeprecate, wQuery, wDiff, wResolve, wRecheck]
  by_cases h7 : word = wRecheck
  · subst h7
    by_cases hn : args.length = 4
    · simp [knownB, rightB, kindsOf, hasBody, forms, find_form, formFits, hn, wRegister, wPublish, wYank, wUnyank, wDeprecate, wQuery, wDiff, wResolve, wRecheck]
    · have e : allFit args [110, 118, 110, 118] = false := allFit_len hn
      simp [knownB, rightB, kindsOf, forms, formFits, hn, e, wRegister, wPublish, wYank, wUnyank, wDeprecate, wQuery, wDiff, wResolve, wRecheck]
  have h31 : word ≠ wYank := fun e => h3 (.inl e)
  have h32 : word ≠ wUnyank := fun e => h3 (.inr (.inl e))
  have h33 : word ≠ wDeprecate := fun e => h3 (.inr (.inr e))
  have e1 : knownB word args = none := not_known args (by
    intro f hf
    unfold forms at hf
    simp only [List.mem_cons, List.not_mem_nil, or_false] at hf
    rcases hf with rfl | rfl | rfl | rfl | rfl | rfl | rfl | rfl | rfl | rfl
    · exact fun e => h1 e.symm
    · exact fun e => h2 e.symm
    · exact fun e => h31 e.symm
    · exact fun e => h32 e.symm
    · exact fun e => h33 e.symm
    · exact fun e => h4 e.symm
    · exact fun e => h4 e.symm
    · exact fun e => h5 e.symm
    · exact fun e => h6 e.symm
    · exact fun e => h7 e.symm)
  have e2 : rightB word args = false := by
    unfold rightB kindsOf
    rw [if_neg h1, if_neg h2, if_neg h3, if_neg h4, if_neg h5, if_neg h6, if_neg h7]
  rw [e1, e2]; rfl
end Go

namespace Go
def notC (c : UInt8) (x : UInt8) : Bool := decide (x ≠ c)
/-- ahead of the first c; behind it; is there one? -/
def headAt (c : UInt8) (l : List UInt8) : List UInt8 := l.takeWhile (notC c)
def tailAt (c : UInt8) (l : List UInt8) : List UInt8 := (l.dropWhile (notC c)).drop 1
def hasAt (c : UInt8) (l : List UInt8) : Bool := l.any fun x => !notC c x
theorem cut_at (c : UInt8) (l : List UInt8) : Lib.cut l [c] = (headAt c l, tailAt c l, hasAt c l) := by
  unfold headAt tailAt hasAt Lib.cut
  induction l with
  | nil => rfl
  | cons a l ih =>
    by_cases ha : a = c
    · subst ha
      simp [notC, Lib.index_one, Lib.indexByte]
    · have hn : notC c a = true := by simp [notC, ha]
      have hb : (a == c) = false := by simpa using ha
      rw [Lib.index_one] at ih ⊢
      rw [Lib.indexByte, hb]
      have hg := Lib.indexByte_ge l c
      rw [List.takeWhile_cons, List.dropWhile_cons, List.any_cons, hn]
      by_cases hi : Lib.indexByte l c = -1
      · rw [hi] at ih ⊢
        simp at ih ⊢
        exact ⟨ih.1, ih.2.1, ih.2.2⟩
      · have h0 : 0 ≤ Lib.indexByte l c := by omega
        have h1 : (Lib.indexByte l c == -1) = false := by simpa using hi
        rw [h1]
        rw [if_pos h0] at ih
        simp only [Bool.false_eq_true, if_false]
        rw [if_pos (by omega)]
        have e : (Lib.indexByte l c + 1).toNat = (Lib.indexByte l c).toNat + 1 := by omega
        rw [e]
        simp at ih ⊢
        refine ⟨ih.1, ?_, ih.2.2⟩
        exact ih.2.1
theorem at_cons_eq (c : UInt8) (l : List UInt8) : headAt c (c :: l) = [] ∧ tailAt c (c :: l) = l ∧ hasAt c (c :: l) = true := by
  simp [headAt, tailAt, hasAt, notC]
theorem at_cons_ne {c a : UInt8} (h : a ≠ c) (l : List UInt8) : headAt c (a :: l) = a :: headAt c l ∧ tailAt c (a :: l) = tailAt c l ∧ hasAt c (a :: l) = hasAt c l := by
  simp [headAt, tailAt, hasAt, notC, h]
theorem at_none {c : UInt8} {l : List UInt8} (h : ∀ x ∈ l, x ≠ c) : headAt c l = l ∧ tailAt c l = [] ∧ hasAt c l = false := by
  induction l with
  | nil => exact ⟨rfl, rfl, rfl⟩
  | cons a l ih =>
    obtain ⟨h1, h2, h3⟩ := ih (fun x hx => h x (by simp [hx]))
    obtain ⟨g1, g2, g3⟩ := at_cons_ne (h a (by simp)) l
    rw [g1, g2, g3, h1, h2, h3]; exact ⟨rfl, rfl, rfl⟩
theorem at_app {c : UInt8} {l : List UInt8} (y : List UInt8) (h : ∀ x ∈ l, x ≠ c) : headAt c (l ++ c :: y) = l ∧ tailAt c (l ++ c :: y) = y ∧ hasAt c (l ++ c :: y) = true := by
  induction l with
  | nil => exact at_cons_eq c y
  | cons a l ih =>
    obtain ⟨h1, h2, h3⟩ := ih (fun x hx => h x (by simp [hx]))
    obtain ⟨g1, g2, g3⟩ := at_cons_ne (h a (by simp)) (l ++ c :: y)
    rw [List.cons_append, g1, g2, g3, h1, h2, h3]; exact ⟨rfl, rfl, rfl⟩
theorem at_back (c : UInt8) (l : List UInt8) : l = headAt c l ++ (if hasAt c l then c :: tailAt c l else []) := by
  induction l with
  | nil => rfl
  | cons a l ih =>
    by_cases h : a = c
    · subst h
      obtain ⟨g1, g2, g3⟩ := at_cons_eq a l
      rw [g1, g2, g3]; rfl
    · obtain ⟨g1, g2, g3⟩ := at_cons_ne h l
      rw [g1, g2, g3, List.cons_append, ← ih]
theorem headAt_no (c : UInt8) (l : List UInt8) : ∀ x ∈ headAt c l, x ≠ c := by
  induction l with
  | nil => intro x hx; cases hx
  | cons a l ih =>
    by_cases h : a = c
    · subst h; rw [(at_cons_eq a l).1]; intro x hx; cases hx
    · rw [(at_cons_ne h l).1]
      intro x hx
      rcases List.mem_cons.1 hx with rfl | hx
      · exact h
      · exact ih x hx
theorem headAt_len (c : UInt8) (l : List UInt8) : (headAt c l).length ≤ l.length := by
  unfold headAt
  exact (List.takeWhile_sublist _).length_le
theorem tailAt_len (c : UInt8) (l : List UInt8) : (tailAt c l).length ≤ l.length := by
  unfold tailAt
  rw [List.length_drop]
  have := (List.dropWhile_sublist (notC c) (l := l)).length_le
  omega
theorem tailAt_none {c : UInt8} {l : List UInt8} (h : hasAt c l = false) : tailAt c l = [] := by
  have := at_back c l
  rw [h] at this
  simp at this
  rw [this]
  exact (at_none (headAt_no c l)).2.1
/-- a version's text is made of bytes above 44 -/
theorem dig_gt {c : UInt8} (h : Sem4.isDig c = true) : 44 < c.toNat := by
  unfold Sem4.isDig at h
  simp at h
  omega
theorem part_gt {c : UInt8} (h : Sem4.partCh c = true) : 44 < c.toNat := by
  unfold Sem4.partCh Sem4.isDig at h
  simp at h
  omega
theorem dots_mem {x : UInt8} : ∀ {l : List UInt8}, x ∈ l → x = 46 ∨ ∃ q ∈ Sem4.dots l, x ∈ q
  | [], h => by cases h
  | c :: l, h => by
    rw [Sem4.dots]
    by_cases hc : c = 46
    · rw [if_pos hc]
      rcases List.mem_cons.1 h with h | h
      · exact .inl (h.trans hc)
      · rcases dots_mem h with h1 | ⟨q, h1, h2⟩
        · exact .inl h1
        · exact .inr ⟨q, by simp [h1], h2⟩
    · rw [if_neg hc]
      cases hd : Sem4.dots l with
      | nil => exact absurd hd (Sem4.dots_ne l)
      | cons p ps =>
        rcases List.mem_cons.1 h with h | h
        · exact .inr ⟨c :: p, by simp, by rw [h]; simp⟩
        · rcases dots_mem h with h1 | ⟨q, h1, h2⟩
          · exact .inl h1
          · rw [hd] at h1
            rcases List.mem_cons.1 h1 with rfl | h1
            · exact .inr ⟨c :: q, by simp, by simp [h2]⟩
            · exact .inr ⟨q, by simp [h1], h2⟩
theorem pre_gt {p : List UInt8} (h : preOk p = true) : ∀ x ∈ p, 44 < x.toNat := by
  intro x hx
  unfold preOk at h
  cases p with
  | nil => cases hx
  | cons a p =>
    rw [show (a :: p).isEmpty = false from rfl, Bool.false_or] at h
    rcases dots_mem hx with rfl | ⟨q, h1, h2⟩
    · decide
    · have := List.all_eq_true.1 h q h1
      unfold Sem4.part at this
      simp only [Bool.and_eq_true] at this
      exact part_gt (List.all_eq_true.1 this.1.2 x h2)
theorem core_gt (a b c : Nat) : ∀ x ∈ showCore a b c, 44 < x.toNat := by
  intro x h
  have hdig : ∀ n, x ∈ dig10 n → 44 < x.toNat := fun n hn => dig_gt (List.all_eq_true.1 (dig10_all n) _ hn)
  unfold showCore at h
  simp only [List.mem_append, List.mem_singleton] at h
  rcases h with (((h | h) | h) | h) | h
  · exact hdig _ h
  · subst h; decide
  · exact hdig _ h
  · subst h; decide
  · exact hdig _ h
theorem showL_gt {a b c : Nat} {p : List UInt8} (h : preOk p = true) : ∀ x ∈ showL a b c p, 44 < x.toNat := by
  intro x hx
  unfold showL at hx
  split at hx
  · exact core_gt _ _ _ x hx
  · rw [List.append_assoc] at hx
    rcases List.mem_append.1 hx with hx | hx
    · exact core_gt _ _ _ x hx
    · rw [List.singleton_append] at hx
      rcases List.mem_cons.1 hx with hx | hx
      · subst hx; decide
      · exact pre_gt h x hx
theorem ver_gt {v : V4} {l : List UInt8} (h : v.IsShow l) : ∀ x ∈ l, 44 < x.toNat := by
  rw [← h.2]
  unfold V4.show
  exact showL_gt (verOk_bounds h.1).2.2.2.2.2.2.2
theorem rest_gt {c : UInt8} (h : restC c = true) : 44 < c.toNat := by
  unfold restC smallC greatC Sem4.isDig at h
  simp at h
  omega
theorem fits_gt {a : List UInt8} {k : UInt8} (h : fitsB a k = true) : ∀ x ∈ a, 44 < x.toNat := by
  unfold fitsB at h
  split at h
  · exact fun x hx => rest_gt (List.all_eq_true.1 (name_len h).2.2.1 x hx)
  · split at h
    · obtain ⟨v, hv⟩ := isVer_true.1 h
      exact ver_gt hv
    · unfold stepsOk at h
      simp only [Bool.and_eq_true] at h
      exact fun x hx => dig_gt (List.all_eq_true.1 h.1.2 x hx)
theorem allFit_gt : ∀ {as : List (List UInt8)} {ks : List UInt8}, allFit as ks = true → ∀ a ∈ as, ∀ x ∈ a, 44 < x.toNat
  | [], [], _, a, h => by cases h
  | [], _ :: _, h, _, _ => by cases h
  | _ :: _, [], h, _, _ => by cases h
  | a :: as, k :: ks, h, b, hb => by
    rw [allFit, Bool.and_eq_true] at h
    rcases List.mem_cons.1 hb with rfl | hb
    · exact fits_gt h.1
    · exact allFit_gt h.2 b hb
theorem kinds_word {word : List UInt8} {n : Nat} {ks : List UInt8} (h : kindsOf word n = some ks) : ∀ x ∈ word, 44 < x.toNat := by
  unfold kindsOf at h
  repeat' (split at h)
  all_goals first
    | (rename_i hw _; subst hw; decide)
    | (rename_i hw _ _; subst hw; decide)
    | (rename_i hw _; rcases hw with rfl | rfl | rfl <;> decide)
    | cases h
theorem right_gt {word : List UInt8} {args : List (List UInt8)} (h : rightB word args = true) : ∀ p ∈ word :: args, ∀ x ∈ p, 44 < x.toNat := by
  unfold rightB at h
  split at h
  · rename_i ks hk
    intro p hp
    rcases List.mem_cons.1 hp with rfl | hp
    · exact kinds_word hk
    · exact allFit_gt h p hp
  · cases h
theorem gt_ne {x c : UInt8} (h : 44 < x.toNat) (hc : c.toNat ≤ 44) : x ≠ c := by rintro rfl; omega
theorem join_no {c d : UInt8} (hcd : c ≠ d) : ∀ {ls : List (List UInt8)}, (∀ p ∈ ls, ∀ x ∈ p, x ≠ d) → ∀ x ∈ joinAt c ls, x ≠ d
  | [], _, x, hx => by cases hx
  | [p], h, x, hx => h p (by simp) x hx
  | p :: q :: r, h, x, hx => by
    rw [joinAt] at hx
    rcases List.mem_append.1 hx with hx | hx
    · exact h p (by simp) x hx
    · rcases List.mem_cons.1 hx with rfl | hx
      · exact hcd
      · exact join_no hcd (fun p hp => h p (by simp at hp ⊢; right; exact hp)) x hx
/-- a command -/
structure Cmd where
  word : List UInt8
  args : List (List UInt8)
  body : List UInt8
def Cmd.zero : Cmd := ⟨[], [], []⟩
/-- what a text reads as -/
noncomputable def cparse (l : List UInt8) : Cmd × Int :=
  if 8000 < l.length then (Cmd.zero, 3)
  else if rightB ((sepAt 32 (headAt 10 l)).headD []) (sepAt 32 (headAt 10 l)).tail && (hasBody ((sepAt 32 (headAt 10 l)).headD []) == hasAt 10 l) then (⟨(sepAt 32 (headAt 10 l)).headD [], (sepAt 32 (headAt 10 l)).tail, tailAt 10 l⟩, 0)
  else (Cmd.zero, 270)
def cmdText (c : Cmd) : List UInt8 := joinAt 32 (c.word :: c.args) ++ (if hasBody c.word then 10 :: c.body else [])
/-- how a command is written -/
noncomputable def cshow (c : Cmd) : List UInt8 × Int :=
  if rightB c.word c.args && (hasBody c.word || c.body.isEmpty) then (if 8000 < (cmdText c).length then ([], 3) else (cmdText c, 0)) else ([], 270)
theorem cshow_cases (c : Cmd) : ((cshow c).2 = 0 ∧ (cshow c).1 = cmdText c ∧ (cmdText c).length ≤ 8000 ∧ rightB c.word c.args = true ∧ (hasBody c.word = true ∨ c.body = [])) ∨ (cshow c = ([], 3) ∨ cshow c = ([], 270)) := by
  unfold cshow
  split
  · rename_i h
    rw [Bool.and_eq_true, Bool.or_eq_true, List.isEmpty_iff] at h
    split
    · exact .inr (.inl rfl)
    · exact .inl ⟨rfl, rfl, by omega, h.1, h.2⟩
  · exact .inr (.inr rfl)
theorem cmd_back {c : Cmd} (hs : (cmdText c).length ≤ 8000) (hr : rightB c.word c.args = true) (hb : hasBody c.word = true ∨ c.body = []) : cparse (cmdText c) = (c, 0) := by
  have hgt := right_gt hr
  have hne : c.word :: c.args ≠ [] := by simp
  have hsep : sepAt 32 (joinAt 32 (c.word :: c.args)) = c.word :: c.args := sepAt_join hne (fun p hp x hx => gt_ne (hgt p hp x hx) (by decide))
  have hno : ∀ x ∈ joinAt 32 (c.word :: c.args), x ≠ 10 := join_no (by decide) (fun p hp x hx => gt_ne (hgt p hp x hx) (by decide))
  have hcut : headAt 10 (cmdText c) = joinAt 32 (c.word :: c.args) ∧ tailAt 10 (cmdText c) = c.body ∧ hasAt 10 (cmdText c) = hasBody c.word := by
    unfold cmdText
    cases hh : hasBody c.word
    · rw [hh] at hb
      rcases hb with h | h
      · cases h
      · simp only [Bool.false_eq_true, if_false, List.append_nil]
        obtain ⟨g1, g2, g3⟩ := at_none hno
        exact ⟨g1, by rw [g2, h], g3⟩
    · simp only [if_true]
      exact at_app _ hno
  unfold cparse
  rw [if_neg (by omega), hcut.1, hcut.2.1, hcut.2.2, hsep]
  simp [hr]
theorem cmd_forms {l : List UInt8} {c : Cmd} (h : cparse l = (c, 0)) : cshow c = (l, 0) := by
  unfold cparse at h
  split at h
  · exact absurd (congrArg Prod.snd h) (by simp)
  · rename_i hl
    split at h
    · rename_i hr
      have hc := congrArg Prod.fst h
      simp only at hc
      subst hc
      rw [Bool.and_eq_true, beq_iff_eq] at hr
      have hne := sepAt_ne 32 (headAt 10 l)
      have hht : (sepAt 32 (headAt 10 l)).headD [] :: (sepAt 32 (headAt 10 l)).tail = sepAt 32 (headAt 10 l) := by
        cases hs : sepAt 32 (headAt 10 l) with
        | nil => exact absurd hs hne
        | cons p ps => rfl
      have ht : cmdText ⟨(sepAt 32 (headAt 10 l)).headD [], (sepAt 32 (headAt 10 l)).tail, tailAt 10 l⟩ = l := by
        unfold cmdText
        simp only
        rw [hht, joinAt_sep, hr.2]
        exact (at_back 10 l).symm
      unfold cshow
      rw [ht]
      simp only
      have hb : (hasBody ((sepAt 32 (headAt 10 l)).headD []) || (tailAt 10 l).isEmpty) = true := by
        rw [hr.2]
        cases hh : hasAt 10 l
        · rw [tailAt_none hh]; rfl
        · rfl
      rw [hr.1, hb]
      simp [hl]
    · exact absurd (congrArg Prod.snd h) (by simp)
theorem cparse_cases (l : List UInt8) : (∃ c, cparse l = (c, 0) ∧ l.length ≤ 8000) ∨ (cparse l = (Cmd.zero, 3) ∧ 8000 < l.length) ∨ (cparse l = (Cmd.zero, 270) ∧ l.length ≤ 8000) := by
  unfold cparse
  split
  · rename_i h; exact .inr (.inl ⟨rfl, h⟩)
  · rename_i h
    split
    · exact .inl ⟨_, rfl, by omega⟩
    · exact .inr (.inr ⟨rfl, by omega⟩)
end Go

namespace Go
open Go.RowKit
/-- a pick -/
structure Pik where
  name : ByteArray
  v : V4
def Pik.cells (p : Pik) : List Value := [.string p.name, .int .i64 p.v.a, .int .i64 p.v.b, .int .i64 p.v.c, .string p.v.p]
def Piks (w : World) (v : Value) (ps : List Pik) : Prop := Row w 5 v ps.length (ps.flatMap Pik.cells)
theorem Piks.below {w w' : World} {v : Value} {ps : List Pik} (h : Piks w v ps) {B : Nat} (hb : Below B w w') (hB : w.heap.size ≤ B) : Piks w' v ps := Row.below h hb hB
theorem piks_get (vs : List Pik) : ∀ (j : Nat) (h : j < vs.length) (i : Nat), i < 5 → (vs.flatMap Pik.cells)[j * 5 + i]? = (vs[j].cells)[i]? := by
  induction vs with
  | nil => intro j h; cases h
  | cons v vs ih =>
    intro j h i hi
    rw [List.flatMap_cons]
    cases j with
    | zero =>
      have : i < v.cells.length := hi
      rw [Nat.zero_mul, Nat.zero_add, List.getElem?_append_left this]; rfl
    | succ j =>
      have hl : v.cells.length = 5 := rfl
      rw [List.getElem?_append_right (by rw [hl]; omega), hl, show (j + 1) * 5 + i - 5 = j * 5 + i by omega, ih j (by simpa using h) i hi]
      rfl
theorem piks_len (vs : List Pik) : (vs.flatMap Pik.cells).length = vs.length * 5 := by
  induction vs with
  | nil => rfl
  | cons v vs ih => rw [List.flatMap_cons, List.length_append, ih, List.length_cons]; simp [Pik.cells]; omega
theorem Piks.cases {w : World} {v : Value} {vs : List Pik} (h : Piks w v vs) :
    vs.length ≤ maxLen ∧ ((∃ a cap, v = .slice a 0 cap ∧ vs = []) ∨
    ∃ b off cap, v = .slice (some ⟨b, off, none⟩) vs.length cap ∧ 0 < vs.length ∧ b < w.heap.size ∧ ∀ j (h : j < vs.length), w.cell? ⟨b, off + j * 5, none⟩ = some (.string vs[j].name) ∧
      w.cell? ⟨b, off + j * 5 + 1, none⟩ = some (.int .i64 vs[j].v.a) ∧ w.cell? ⟨b, off + j * 5 + 2, none⟩ = some (.int .i64 vs[j].v.b) ∧ w.cell? ⟨b, off + j * 5 + 3, none⟩ = some (.int .i64 vs[j].v.c) ∧
      w.cell? ⟨b, off + j * 5 + 4, none⟩ = some (.string vs[j].v.p)) := by
  obtain ⟨h1, h2, ⟨a, cap, h3, h4, _⟩ | ⟨b, off, cap, h3, h4, h5, h6⟩⟩ := h
  · exact ⟨h2, .inl ⟨a, cap, h3, List.eq_nil_of_length_eq_zero h4⟩⟩
  · refine ⟨h2, .inr ⟨b, off, cap, h3, h4, h5, fun j hj => ?_⟩⟩
    have g := fun i hi => (h6 (j * 5 + i) (by omega)).trans (piks_get vs j hj i hi)
    refine ⟨?_, ?_, ?_, ?_, ?_⟩
    · have := g 0 (by omega); simpa [Pik.cells] using this
    · have := g 1 (by omega); simpa [Pik.cells, Nat.add_assoc] using this
    · have := g 2 (by omega); simpa [Pik.cells, Nat.add_assoc] using this
    · have := g 3 (by omega); simpa [Pik.cells, Nat.add_assoc] using this
    · have := g 4 (by omega); simpa [Pik.cells, Nat.add_assoc] using this
theorem Piks.of_owns {w : World} {base : Nat} {e : TypeId} {v : Value} {n : Nat} {ps : List Pik} (h : w.ownsRow base e 5 v n (ps.flatMap Pik.cells)) : Piks w v ps := by
  have h1 : n = ps.length := by have := h.1; rw [piks_len] at this; omega
  subst h1; exact Row.of_owns h
/-! may picks be a lock? -/
def Pik.nm (p : Pik) : List UInt8 := p.name.data.toList
def Pik.ok (p : Pik) : Bool := nameOk p.nm && p.v.ok
/-- a pick's name is above the one ahead of it -/
def risesAt (l : List Pik) (k : Nat) : Bool := match l[k - 1]?, l[k]? with
  | some a, some b => decide (k = 0) || Op.bytesLess a.nm b.nm
  | _, _ => true
def mayTo (l : List Pik) : Nat → Bool
  | 0 => true
  | k + 1 => mayTo l k && ((l[k]?.map Pik.ok).getD true && risesAt l k)
def mayB (l : List Pik) : Bool := mayTo l l.length && decide (l.length ≤ 40)
theorem mayTo_le {l : List Pik} : ∀ {n k : Nat}, mayTo l n = true → k ≤ n → mayTo l k = true
  | 0, k, h, hk => by have : k = 0 := by omega
                      subst this; exact h
  | n + 1, k, h, hk => by
    rw [mayTo, Bool.and_eq_true] at h
    by_cases e : k = n + 1
    · subst e; rw [mayTo, h.1, h.2]; rfl
    · exact mayTo_le h.1 (by omega)
theorem may_ok {l : List Pik} (h : mayTo l l.length = true) {k : Nat} (hk : k < l.length) : l[k].ok = true := by
  have := mayTo_le h (show k + 1 ≤ l.length from hk)
  rw [mayTo, Bool.and_eq_true, Bool.and_eq_true, List.getElem?_eq_getElem hk] at this
  exact this.2.1
theorem may_rises {l : List Pik} (h : mayTo l l.length = true) {k : Nat} (hk : k + 1 < l.length) : Op.bytesLess l[k].nm l[k + 1].nm = true := by
  have := mayTo_le h (show k + 1 + 1 ≤ l.length from hk)
  rw [mayTo, Bool.and_eq_true, Bool.and_eq_true] at this
  have := this.2.2
  unfold risesAt at this
  rw [Nat.add_sub_cancel, List.getElem?_eq_getElem (by omega), List.getElem?_eq_getElem hk] at this
  simpa using this
theorem mayTo_no {l : List Pik} {k : Nat} (hk : k < l.length) (h : l[k].ok = false ∨ risesAt l k = false) : mayB l = false := by
  unfold mayB
  rw [Bool.and_eq_false_iff]
  left
  cases hm : mayTo l l.length
  · rfl
  · have := mayTo_le hm (show k + 1 ≤ l.length from hk)
    rw [mayTo, Bool.and_eq_true, Bool.and_eq_true, List.getElem?_eq_getElem hk] at this
    rcases h with h | h
    · have h1 := this.2.1
      simp only [Option.map_some, Option.getD_some] at h1
      rw [h] at h1; cases h1
    · rw [h] at this; exact absurd this.2.2 (by decide)
theorem mayTo_succ {l : List Pik} {k : Nat} (hk : k < l.length) (h : mayTo l k = true) (h1 : l[k].ok = true) (h2 : risesAt l k = true) : mayTo l (k + 1) = true := by
  rw [mayTo, h, h2, List.getElem?_eq_getElem hk]
  simp [h1]
/-! how a lock is written -/
def Pik.line (p : Pik) : List UInt8 := p.nm ++ 32 :: p.v.show
def headL : List UInt8 := [108, 111, 99, 107, 32, 49, 10]
def lineN (p : Pik) : List UInt8 := p.line ++ [10]
def bodyL (l : List Pik) : List UInt8 := headL ++ (l.map lineN).flatten
def hexC (d : Nat) : UInt8 := if d < 10 then UInt8.ofNat (48 + d) else UInt8.ofNat (87 + d)
def hexK : Nat → Nat → List UInt8
  | 0, _ => []
  | k + 1, n => hexK k (n / 16) ++ [hexC (n % 16)]
def sumL (b : List UInt8) : List UInt8 := [115, 117, 109, 32] ++ hexK 8 (Crc.sum b) ++ [10]
def lockL (l : List Pik) : List UInt8 := bodyL l ++ sumL (bodyL l)
def lockShow (l : List Pik) : List UInt8 × Int := if mayB l then (lockL l, 0) else ([], 370)
/-- the lock that some bytes are, or the error -/
def LockIs (s : List UInt8) (l : List Pik) (e : Int) : Prop := (e = 0 ∧ mayB l = true ∧ lockL l = s) ∨ (e = 370 ∧ l = [] ∧ ∀ k : List Pik, mayB k = true → lockL k ≠ s)
theorem hexK_length : ∀ (k n : Nat), (hexK k n).length = k
  | 0, _ => rfl
  | k + 1, n => by rw [hexK, List.length_append, hexK_length k]; rfl
theorem hexC_all : ∀ d : Fin 16, hexC d.val ≠ 10 ∧ hexC d.val ≠ 32 ∧ hexC d.val ≠ 46 ∧ (hexC d.val).toNat < 128 := by decide
theorem hexC_ne {d : Nat} (h : d < 16) : hexC d ≠ 10 ∧ hexC d ≠ 32 ∧ hexC d ≠ 46 ∧ (hexC d).toNat < 128 := hexC_all ⟨d, h⟩
theorem hexC_inj_all : ∀ a b : Fin 16, hexC a.val = hexC b.val → a = b := by decide
theorem hexC_inj {a b : Nat} (ha : a < 16) (hb : b < 16) (h : hexC a = hexC b) : a = b := congrArg Fin.val (hexC_inj_all ⟨a, ha⟩ ⟨b, hb⟩ h)
theorem hexK_mem : ∀ (k n : Nat), ∀ c ∈ hexK k n, c ≠ 10 ∧ c ≠ 32 ∧ c ≠ 46 ∧ c.toNat < 128
  | 0, _, c, h => by cases h
  | k + 1, n, c, h => by
    rw [hexK, List.mem_append] at h
    rcases h with h | h
    · exact hexK_mem k (n / 16) c h
    · simp only [List.mem_singleton] at h
      subst h
      exact hexC_ne (Nat.mod_lt _ (by decide))
theorem hexK_inj : ∀ (k a b : Nat), a < 16 ^ k → b < 16 ^ k → hexK k a = hexK k b → a = b
  | 0, a, b, ha, hb, _ => by rw [Nat.pow_zero] at ha hb; omega
  | k + 1, a, b, ha, hb, h => by
    rw [hexK, hexK] at h
    have h1 := List.append_inj' h rfl
    have h2 := hexK_inj k (a / 16) (b / 16) (by rw [Nat.pow_succ] at ha; omega) (by rw [Nat.pow_succ] at hb; omega) h1.1
    have h3 : hexC (a % 16) = hexC (b % 16) := by injection h1.2
    have := hexC_inj (Nat.mod_lt a (by decide)) (Nat.mod_lt b (by decide)) h3
    omega
theorem sumL_length (b : List UInt8) : (sumL b).length = 13 := by simp [sumL, hexK_length]
end Go

namespace Go
/-- lines, each with its end -/
def flatN (ts : List (List UInt8)) : List UInt8 := (ts.map fun t => t ++ [10]).flatten
theorem flatN_cons (t : List UInt8) (ts : List (List UInt8)) : flatN (t :: ts) = t ++ 10 :: flatN ts := by simp [flatN]
theorem flatN_app (a b : List (List UInt8)) : flatN (a ++ b) = flatN a ++ flatN b := by simp [flatN]
theorem sep_lines : ∀ (ts : List (List UInt8)) (r : List UInt8), (∀ t ∈ ts, ∀ c ∈ t, c ≠ 10) → sepAt 10 (flatN ts ++ r) = ts ++ sepAt 10 r
  | [], r, _ => rfl
  | t :: ts, r, h => by
    rw [flatN_cons, List.append_assoc, List.cons_append, sepAt_app _ (h t List.mem_cons_self), sep_lines ts r (fun x hx => h x (List.mem_cons_of_mem _ hx))]
    rfl
theorem sepAt_nil (c : UInt8) : sepAt c [] = [[]] := sepAt_none (fun x hx => by cases hx)
theorem sep_lines0 (ts : List (List UInt8)) (h : ∀ t ∈ ts, ∀ c ∈ t, c ≠ 10) : sepAt 10 (flatN ts) = ts ++ [[]] := by
  have := sep_lines ts [] h
  rwa [List.append_nil, sepAt_nil] at this
theorem flatN_inj {a b : List (List UInt8)} (ha : ∀ t ∈ a, ∀ c ∈ t, c ≠ 10) (hb : ∀ t ∈ b, ∀ c ∈ t, c ≠ 10) (h : flatN a = flatN b) : a = b := by
  have h1 := sep_lines0 a ha
  rw [h, sep_lines0 b hb] at h1
  exact (List.append_inj' h1 rfl).1.symm
theorem flatN_pre {a b : List (List UInt8)} {r : List UInt8} (ha : ∀ t ∈ a, ∀ c ∈ t, c ≠ 10) (hb : ∀ t ∈ b, ∀ c ∈ t, c ≠ 10) (h : flatN a ++ r = flatN b) : ∃ c, b = a ++ c ∧ (c = [] → r = []) := by
  have h1 := sep_lines a r ha
  rw [h, sep_lines0 b hb] at h1
  have h2 : (sepAt 10 r) ≠ [] := sepAt_ne 10 r
  refine ⟨(sepAt 10 r).dropLast, ?_, fun hc => ?_⟩
  · have h3 := congrArg List.dropLast h1
    rw [List.dropLast_concat, List.dropLast_append_of_ne_nil h2] at h3
    exact h3
  · have hl := congrArg List.length hc
    rw [List.length_dropLast, List.length_nil, sepAt_count] at hl
    have h0 : r.count 10 = 0 := by omega
    have hn : ∀ x ∈ r, x ≠ 10 := fun x hx e => by
      subst e
      have := List.count_pos_iff.2 hx
      omega
    rw [sepAt_none hn] at h1
    have h3 := congrArg List.getLast? h1
    rw [List.getLast?_concat, List.getLast?_concat] at h3
    injection h3 with h3
    exact h3.symm
theorem part_at {c : UInt8} : ∀ {n m s t : List UInt8}, (∀ x ∈ n, x ≠ c) → (∀ x ∈ m, x ≠ c) → n ++ c :: s = m ++ c :: t → n = m ∧ s = t
  | [], [], s, t, _, _, h => ⟨rfl, by injection h⟩
  | [], b :: m, s, t, _, hm, h => by injection h with h; exact absurd h.symm (hm b List.mem_cons_self)
  | a :: n, [], s, t, hn, _, h => by injection h with h; exact absurd h (hn a List.mem_cons_self)
  | a :: n, b :: m, s, t, hn, hm, h => by
    injection h with h1 h2
    obtain ⟨e1, e2⟩ := part_at (fun x hx => hn x (List.mem_cons_of_mem _ hx)) (fun x hx => hm x (List.mem_cons_of_mem _ hx)) h2
    exact ⟨by rw [h1, e1], e2⟩
/-! the lines of a lock -/
def sumLine (b : List UInt8) : List UInt8 := [115, 117, 109, 32] ++ hexK 8 (Crc.sum b)
def lockLines (l : List Pik) : List (List UInt8) := [108, 111, 99, 107, 32, 49] :: (l.map Pik.line ++ [sumLine (bodyL l)])
theorem lock_flat (l : List Pik) : lockL l = flatN (lockLines l) := by
  unfold lockLines
  rw [flatN_cons, flatN_app]
  have h1 : flatN (l.map Pik.line) = (l.map lineN).flatten := by unfold flatN; rw [List.map_map]; rfl
  rw [h1]
  unfold lockL bodyL headL
  simp [flatN, sumLine, sumL]
theorem pik_parts {p : Pik} (h : p.ok = true) : nameOk p.nm = true ∧ p.v.ok = true := by unfold Pik.ok at h; simpa using h
theorem show_gt {v : V4} (h : v.ok = true) : ∀ c ∈ v.show, 44 < c.toNat := ver_gt (⟨h, rfl⟩ : v.IsShow v.show)
theorem line_no {p : Pik} (h : p.ok = true) : ∀ c ∈ p.line, c ≠ 10 := by
  obtain ⟨h1, h2⟩ := pik_parts h
  intro c hc
  unfold Pik.line at hc
  rw [List.mem_append, List.mem_cons] at hc
  rcases hc with hc | rfl | hc
  · exact name_no h1 10 (by decide) c hc
  · decide
  · have := show_gt h2 c hc
    rintro rfl
    exact absurd this (by decide)
theorem may_all {l : List Pik} (h : mayB l = true) : (∀ p ∈ l, p.ok = true) ∧ l.length ≤ 40 := by
  unfold mayB at h
  rw [Bool.and_eq_true, decide_eq_true_eq] at h
  refine ⟨fun p hp => ?_, h.2⟩
  obtain ⟨k, hk, rfl⟩ := List.getElem_of_mem hp
  exact may_ok h.1 hk
theorem lock_no {l : List Pik} (h : mayB l = true) : ∀ t ∈ lockLines l, ∀ c ∈ t, c ≠ 10 := by
  intro t ht
  unfold lockLines at ht
  rw [List.mem_cons, List.mem_append, List.mem_map, List.mem_singleton] at ht
  rcases ht with rfl | ⟨p, hp, rfl⟩ | rfl
  · decide
  · exact line_no ((may_all h).1 p hp)
  · intro c hc
    unfold sumLine at hc
    rw [List.mem_append] at hc
    rcases hc with hc | hc
    · revert c; decide
    · exact (hexK_mem _ _ c hc).1
theorem line_inj {p q : Pik} (hp : p.ok = true) (hq : q.ok = true) (h : p.line = q.line) : p = q := by
  obtain ⟨h1, h2⟩ := pik_parts hp
  obtain ⟨g1, g2⟩ := pik_parts hq
  obtain ⟨e1, e2⟩ := part_at (name_no h1 32 (by decide)) (name_no g1 32 (by decide)) h
  have e3 := V4.isShow_inj (⟨h2, e2⟩ : p.v.IsShow q.v.show) ⟨g2, rfl⟩
  obtain ⟨n, v⟩ := p
  obtain ⟨m, u⟩ := q
  simp only at e3
  subst e3
  have : n = m := ByteArray.ext (Array.toList_inj.1 e1)
  subst this; rfl
theorem lines_inj : ∀ {a b : List Pik}, (∀ p ∈ a, p.ok = true) → (∀ p ∈ b, p.ok = true) → a.map Pik.line = b.map Pik.line → a = b
  | [], [], _, _, _ => rfl
  | [], q :: b, _, _, h => by cases h
  | p :: a, [], _, _, h => by cases h
  | p :: a, q :: b, ha, hb, h => by
    rw [List.map_cons, List.map_cons] at h
    injection h with h1 h2
    rw [line_inj (ha p List.mem_cons_self) (hb q List.mem_cons_self) h1, lines_inj (fun x hx => ha x (List.mem_cons_of_mem _ hx)) (fun x hx => hb x (List.mem_cons_of_mem _ hx)) h2]
theorem lock_inj {k l : List Pik} (hk : mayB k = true) (hl : mayB l = true) (h : lockL k = lockL l) : k = l := by
  rw [lock_flat, lock_flat] at h
  have h1 := flatN_inj (lock_no hk) (lock_no hl) h
  unfold lockLines at h1
  injection h1 with _ h1
  exact lines_inj (may_all hk).1 (may_all hl).1 (List.append_inj' h1 rfl).1
theorem LockIs.uniq {s : List UInt8} {l l' : List Pik} {e e' : Int} (h : LockIs s l e) (h' : LockIs s l' e') : l = l' ∧ e = e' := by
  rcases h with ⟨rfl, h1, h2⟩ | ⟨rfl, rfl, h⟩ <;> rcases h' with ⟨rfl, g1, g2⟩ | ⟨rfl, rfl, g⟩
  · exact ⟨lock_inj h1 g1 (h2.trans g2.symm), rfl⟩
  · exact absurd h2 (g _ h1)
  · exact absurd g2 (h _ g1)
  · exact ⟨rfl, rfl⟩
theorem show_dot (v : V4) : (46 : UInt8) ∈ v.show := by
  unfold V4.show showL showCore
  split <;> simp
/-- nothing may stand behind a lock -/
theorem lock_pre {k l : List Pik} {r : List UInt8} (hk : mayB k = true) (hl : mayB l = true) (h : lockL k ++ r = lockL l) : r = [] := by
  rw [lock_flat, lock_flat] at h
  obtain ⟨c, h1, h2⟩ := flatN_pre (lock_no hk) (lock_no hl) h
  apply h2
  cases hc : c with
  | nil => rfl
  | cons x y =>
    exfalso
    subst hc
    unfold lockLines at h1
    rw [List.cons_append] at h1
    injection h1 with _ h1
    rw [List.append_assoc, List.singleton_append] at h1
    have h3 := congrArg (fun z => z[k.length]?) h1.symm
    rw [List.getElem?_append_right (by rw [List.length_map]; exact Nat.le_refl _), List.length_map, Nat.sub_self] at h3
    have hlen := congrArg List.length h1
    simp only [List.length_append, List.length_map, List.length_cons, List.length_nil] at hlen
    rw [List.getElem?_append_left (by rw [List.length_map]; omega), List.getElem?_map, List.getElem?_eq_getElem (show k.length < l.length by omega)] at h3
    simp only [Option.map_some, List.getElem?_cons_zero, Option.some.injEq] at h3
    obtain ⟨g1, g2⟩ := pik_parts ((may_all hl).1 _ (List.getElem_mem (show k.length < l.length by omega)))
    have h4 : (Pik.nm l[k.length]) ++ 32 :: (l[k.length]).v.show = [115, 117, 109] ++ 32 :: hexK 8 (Crc.sum (bodyL k)) := h3.symm
    have h5 := (part_at (name_no g1 32 (by decide)) (by decide) h4).2
    have h6 := show_dot (l[k.length]).v
    rw [h5] at h6
    exact (hexK_mem _ _ _ h6).2.2.1 rfl
/-- one byte that is another one is seen -/
theorem lock_turn {k l : List Pik} {u z : List UInt8} {x y : UInt8} (h1 : lockL k = u ++ x :: z) (h2 : lockL l = u ++ y :: z) : x = y := by
  have hlen : (bodyL k).length = (bodyL l).length := by
    have e1 := congrArg List.length h1
    have e2 := congrArg List.length h2
    unfold lockL at e1 e2
    rw [List.length_append, sumL_length] at e1 e2
    simp only [List.length_append, List.length_cons] at e1 e2
    omega
  obtain ⟨N, hN⟩ : ∃ N, (bodyL k).length = N := ⟨_, rfl⟩
  have hN' : (bodyL l).length = N := by rw [← hlen, hN]
  have t1 : bodyL k = (u ++ x :: z).take N := by rw [← h1, ← hN]; unfold lockL; rw [List.take_left]
  have t2 : bodyL l = (u ++ y :: z).take N := by rw [← h2, ← hN']; unfold lockL; rw [List.take_left]
  have s1 : sumL (bodyL k) = (u ++ x :: z).drop N := by rw [← h1, ← hN]; unfold lockL; rw [List.drop_left]
  have s2 : sumL (bodyL l) = (u ++ y :: z).drop N := by rw [← h2, ← hN']; unfold lockL; rw [List.drop_left]
  by_cases hu : u.length < N
  · obtain ⟨m, rfl⟩ : ∃ m, N = u.length + (m + 1) := ⟨N - u.length - 1, by omega⟩
    have b1 : bodyL k = u ++ x :: z.take m := by rw [t1, List.take_append, List.take_of_length_le (by omega)]; simp
    have b2 : bodyL l = u ++ y :: z.take m := by rw [t2, List.take_append, List.take_of_length_le (by omega)]; simp
    have s3 : sumL (bodyL k) = sumL (bodyL l) := by
      rw [s1, s2, List.drop_append, List.drop_append]
      simp
    unfold sumL at s3
    have s4 := (List.append_inj' s3 rfl).1
    have s5 := (List.append_inj s4 rfl).2
    have s6 := hexK_inj 8 _ _ (by have := Crc.sum_lt (bodyL k); omega) (by have := Crc.sum_lt (bodyL l); omega) s5
    rw [b1, b2] at s6
    exact Crc.sum_one s6
  · have b : bodyL k = bodyL l := by
      rw [t1, t2, List.take_append_of_le_length (by omega), List.take_append_of_le_length (by omega)]
    have : lockL k = lockL l := by unfold lockL; rw [b]
    rw [h1, h2] at this
    have := List.append_cancel_left this
    injection this
end Go

namespace Go
/-! pieces, each with its end -/
theorem idx_at (c : UInt8) (y : List UInt8) : ∀ {x : List UInt8}, (∀ z ∈ x, z ≠ c) → Lib.index (x ++ c :: y) [c] = (x.length : Int) := by
  intro x hx
  rw [Lib.index_one]
  induction x with
  | nil => simp [Lib.indexByte]
  | cons a x ih =>
    have := ih (fun z hz => hx z (by simp [hz]))
    have ha := hx a (by simp)
    have hb : (a == c) = false := by simpa using ha
    rw [List.cons_append, Lib.indexByte, hb, this]
    have : ((x.length : Int) == -1) = false := by simp
    rw [this]
    simp
theorem splitA_lines : ∀ (ts : List (List UInt8)), (∀ t ∈ ts, ∀ c ∈ t, c ≠ 10) → Lib.splitK [10] 1 ts.length (flatN ts) = ts.map (fun t => t ++ [10]) ++ [[]]
  | [], _ => rfl
  | t :: ts, h => by
    rw [flatN_cons, List.length_cons]
    unfold Lib.splitK
    have : ((t.length : Int) == -1) = false := by simp
    rw [idx_at 10 _ (h t List.mem_cons_self), this]
    simp only [Int.toNat_natCast, List.length_singleton, Bool.false_eq_true, if_false]
    rw [show (t ++ 10 :: flatN ts).take (t.length + 1) = t ++ [10] by rw [List.take_append, List.take_of_length_le (by omega)]; simp, show (t ++ 10 :: flatN ts).drop (t.length + 1) = flatN ts by simp, splitA_lines ts (fun x hx => h x (List.mem_cons_of_mem _ hx))]
    rfl
theorem count_lines : ∀ (ts : List (List UInt8)), (∀ t ∈ ts, ∀ c ∈ t, c ≠ 10) → (flatN ts).count 10 = ts.length
  | [], _ => rfl
  | t :: ts, h => by
    rw [flatN_cons, List.count_append, List.count_cons_self, count_lines ts (fun x hx => h x (List.mem_cons_of_mem _ hx)), List.count_eq_zero.2 (fun hm => h t List.mem_cons_self 10 hm rfl), List.length_cons]
    omega
theorem lines_of : ∀ (n : Nat) (r : List UInt8), r.length ≤ n → (r = [] ∨ r.getLast? = some 10) → ∃ ts, r = flatN ts ∧ ∀ t ∈ ts, ∀ c ∈ t, c ≠ 10
  | _, [], _, _ => ⟨[], rfl, fun t ht => by cases ht⟩
  | 0, x :: r, h, _ => by simp at h
  | n + 1, x :: r, h, hl => by
    have hl : (x :: r).getLast? = some 10 := by rcases hl with hl | hl; cases hl; exact hl
    have hm : (10 : UInt8) ∈ x :: r := List.mem_of_getLast? hl
    obtain ⟨a, b, hab, ha⟩ : ∃ a b, x :: r = a ++ 10 :: b ∧ ∀ z ∈ a, z ≠ 10 := by
      clear hl h
      generalize x :: r = l at hm
      induction l with
      | nil => cases hm
      | cons y l ih =>
        by_cases hy : y = 10
        · subst hy; exact ⟨[], l, rfl, by simp⟩
        · obtain ⟨a, b, h1, h2⟩ := ih (by rcases List.mem_cons.1 hm with h | h; exact absurd h.symm hy; exact h)
          refine ⟨y :: a, b, by rw [h1]; rfl, fun z hz => ?_⟩
          rcases List.mem_cons.1 hz with rfl | h
          · exact hy
          · exact h2 z h
    have hb : b = [] ∨ b.getLast? = some 10 := by
      rcases List.eq_nil_or_concat b with rfl | ⟨b', z, rfl⟩
      · exact .inl rfl
      · right
        rw [hab, List.concat_eq_append] at hl
        rw [List.concat_eq_append]
        rw [show a ++ 10 :: (b' ++ [z]) = (a ++ 10 :: b') ++ [z] by simp, List.getLast?_concat] at hl
        rw [List.getLast?_concat]; exact hl
    have hlen : b.length ≤ n := by
      have := congrArg List.length hab
      simp only [List.length_cons, List.length_append] at this h
      omega
    obtain ⟨ts, rfl, hts⟩ := lines_of n b hlen hb
    refine ⟨a :: ts, by rw [hab, flatN_cons], fun t ht => ?_⟩
    rcases List.mem_cons.1 ht with rfl | ht
    · exact ha
    · exact hts t ht
theorem trimSuf (t : List UInt8) : Lib.trimSuffix (t ++ [10]) [10] = t := by
  unfold Lib.trimSuffix
  rw [if_pos (show Lib.hasSuffix (t ++ [10]) [10] = true from List.isSuffixOf_iff_suffix.2 ⟨t, rfl⟩)]
  simp
/-! what stands in a lock -/
def sumPre : List UInt8 := [10, 115, 117, 109, 32]
theorem body_last (k : List Pik) : ∃ u, bodyL k = u ++ [10] := by
  rcases List.eq_nil_or_concat k with rfl | ⟨k', p, rfl⟩
  · exact ⟨[108, 111, 99, 107, 32, 49], rfl⟩
  · refine ⟨headL ++ (k'.map lineN).flatten ++ p.line, ?_⟩
    unfold bodyL lineN
    simp
theorem bodyL_len (k : List Pik) : 7 ≤ (bodyL k).length := by unfold bodyL; rw [List.length_append]; simp [headL]
theorem body_flat (k : List Pik) : bodyL k = headL ++ flatN (k.map Pik.line) := by
  unfold bodyL flatN; rw [List.map_map]; rfl
theorem last_sum (k : List Pik) : Lib.lastIndex (lockL k) sumPre = (((bodyL k).length - 1 : Nat) : Int) := by
  obtain ⟨u, hu⟩ := body_last k
  have hl : lockL k = u ++ (sumPre ++ (hexK 8 (Crc.sum (bodyL k)) ++ [10])) := by
    unfold lockL sumL sumPre
    rw [hu]; simp
  have hb : (bodyL k).length - 1 = u.length := by rw [hu]; simp
  have hsz : (lockL k).length = u.length + 14 := by rw [hl]; simp [sumPre, hexK_length]
  have hocc : Lib.occAt (lockL k) sumPre u.length = true := by
    unfold Lib.occAt
    rw [hl, List.drop_left]
    simp
  have hno : ∀ j, u.length < j → j < u.length + 10 → Lib.occAt (lockL k) sumPre j = false := by
    intro j h1 h2
    obtain ⟨i, rfl⟩ : ∃ i, j = u.length + (i + 1) := ⟨j - u.length - 1, by omega⟩
    unfold Lib.occAt
    rw [hl, List.drop_append, List.drop_of_length_le (by omega), List.nil_append, show u.length + (i + 1) - u.length = i + 1 by omega]
    have hi : i < ([115, 117, 109, 32] ++ hexK 8 (Crc.sum (bodyL k))).length := by simp [hexK_length]; omega
    have e : (sumPre ++ (hexK 8 (Crc.sum (bodyL k)) ++ [10])).drop (i + 1) = ([115, 117, 109, 32] ++ hexK 8 (Crc.sum (bodyL k))).drop i ++ [10] := by
      unfold sumPre
      rw [List.cons_append, List.drop_succ_cons, ← List.append_assoc, List.drop_append_of_le_length (by omega)]
    rw [e, List.drop_eq_getElem_cons hi]
    have hc : ([115, 117, 109, 32] ++ hexK 8 (Crc.sum (bodyL k)))[i] ≠ 10 := by
      have hm := List.getElem_mem hi
      rw [List.mem_append] at hm
      rcases hm with hm | hm
      · intro h
        rw [h] at hm
        revert hm; decide
      · exact (hexK_mem _ _ _ hm).1
    unfold sumPre
    rw [List.cons_append]
    simp only [List.isPrefixOf]
    rw [show ((10 : UInt8) == ([115, 117, 109, 32] ++ hexK 8 (Crc.sum (bodyL k)))[i]) = false by rw [beq_eq_false_iff_ne]; exact fun h => hc h.symm]
    rfl
  unfold Lib.lastIndex
  rw [if_pos (by rw [hsz]; simp [sumPre]), hb, hsz, show sumPre.length = 5 from rfl, show u.length + 14 - 5 + 1 = u.length + 10 by omega]
  rcases Lib.lastOcc_spec (lockL k) sumPre (u.length + 10) with ⟨_, h⟩ | ⟨i, h1, h2, h3, h4⟩
  · rw [h u.length (by omega)] at hocc; cases hocc
  · rw [h2]
    by_cases hlt : i < u.length
    · rw [h4 u.length hlt (by omega)] at hocc; cases hocc
    · by_cases hgt : u.length < i
      · rw [hno i hgt h1] at h3; cases h3
      · rw [show i = u.length by omega]
/-- a text that passes the first looks -/
theorem lock_shape {l : List UInt8} {a : Nat} (hN : l.length = a + 14) (ho : Lib.occAt l sumPre a = true) (hl : l[a + 13]? = some 10) :
    l = l.take (a + 1) ++ ([115, 117, 109, 32] ++ (l.drop (a + 5)).take 8 ++ [10]) ∧ ∃ u, l.take (a + 1) = u ++ [10] ∧ u.length = a := by
  unfold Lib.occAt at ho
  rw [List.isPrefixOf_iff_prefix] at ho
  obtain ⟨y, hy⟩ := ho
  have h1 : l = l.take a ++ (sumPre ++ y) := by rw [hy, List.take_append_drop]
  have hta : (l.take a).length = a := by rw [List.length_take]; omega
  obtain ⟨u, hu⟩ : ∃ u, l.take a = u := ⟨_, rfl⟩
  rw [hu] at h1 hta
  have hyl : y.length = 9 := by
    have := congrArg List.length h1
    rw [List.length_append, List.length_append, hta, hN] at this
    simp [sumPre] at this; omega
  have hy9 : y = y.take 8 ++ [10] := by
    have h2 : y = y.take 8 ++ y.drop 8 := (List.take_append_drop 8 y).symm
    have h3 : y.drop 8 = [10] := by
      rw [h1, List.getElem?_append_right (by omega), List.getElem?_append_right (by simp [sumPre]; omega)] at hl
      simp only [hta] at hl
      rw [show a + 13 - a - sumPre.length = 8 by simp [sumPre]] at hl
      obtain ⟨h8, h10⟩ := List.getElem?_eq_some_iff.1 hl
      rw [List.drop_eq_getElem_cons h8, h10, List.drop_of_length_le (by omega)]
    rw [h3] at h2
    exact h2
  have ht1 : l.take (a + 1) = u ++ [10] := by
    rw [h1, List.take_append, List.take_of_length_le (by omega), hta]
    rw [show a + 1 - a = 1 by omega]; rfl
  have hd : (l.drop (a + 5)).take 8 = y.take 8 := by
    have e : l.drop (a + 5) = y := by
      rw [h1, List.drop_append, List.drop_of_length_le (by omega), hta, show a + 5 - a = 5 by omega]; rfl
    rw [e]
  refine ⟨?_, u, ht1, hta⟩
  rw [ht1, hd]
  conv => lhs; rw [h1, hy9]
  simp [sumPre]
/-- ahead of the sum: the head, then lines -/
theorem lock_lines {l u : List UInt8} {a : Nat} (hp : Lib.hasPrefix l headL = true) (ht : l.take (a + 1) = u ++ [10]) (hu : u.length = a) :
    6 ≤ a ∧ ∃ ts, (l.drop 7).take (a - 6) = flatN ts ∧ (∀ t ∈ ts, ∀ c ∈ t, c ≠ 10) ∧ l.take (a + 1) = headL ++ flatN ts := by
  unfold Lib.hasPrefix at hp
  rw [List.isPrefixOf_iff_prefix] at hp
  obtain ⟨r, rfl⟩ := hp
  have ha : 6 ≤ a := by
    apply Nat.le_of_not_lt
    intro h
    have h0 : ((headL ++ r).take (a + 1))[a]? = some 10 := by rw [ht, List.getElem?_append_right (by omega), hu, Nat.sub_self]; rfl
    rw [List.getElem?_take_of_lt (by omega), List.getElem?_append_left (by simp [headL]; omega)] at h0
    have h6 : a = 0 ∨ a = 1 ∨ a = 2 ∨ a = 3 ∨ a = 4 ∨ a = 5 := by omega
    rcases h6 with rfl | rfl | rfl | rfl | rfl | rfl <;> revert h0 <;> decide
  have hd : (headL ++ r).drop 7 = r := rfl
  have htk : (headL ++ r).take (a + 1) = headL ++ r.take (a - 6) := by
    rw [List.take_append, List.take_of_length_le (by simp [headL]; omega), show a + 1 - headL.length = a - 6 by simp [headL]]
  refine ⟨ha, ?_⟩
  rw [hd, htk]
  obtain ⟨ts, h1, h2⟩ := lines_of _ (r.take (a - 6)) (Nat.le_refl _) (by
    rcases List.eq_nil_or_concat (r.take (a - 6)) with h | ⟨x, z, h⟩
    · exact .inl h
    · right
      rw [htk, h, List.concat_eq_append, ← List.append_assoc] at ht
      have := (List.append_inj' ht rfl).2
      rw [h, List.concat_eq_append, List.getLast?_concat]
      injection this with this
      rw [this])
  exact ⟨ts, h1, h2, by rw [h1]⟩
/-- what a lock passes -/
theorem lock_facts (k : List Pik) : ∃ a, (lockL k).length = a + 14 ∧ Lib.lastIndex (lockL k) sumPre = (a : Int) ∧ Lib.hasPrefix (lockL k) headL = true ∧ (lockL k)[a + 13]? = some 10 ∧ (lockL k).take (a + 1) = bodyL k ∧ ((lockL k).drop (a + 5)).take 8 = hexK 8 (Crc.sum (bodyL k)) := by
  have hb := bodyL_len k
  have h13 := sumL_length (bodyL k)
  obtain ⟨b, hbb⟩ : ∃ b, bodyL k = b := ⟨_, rfl⟩
  have hL : lockL k = b ++ sumL b := by unfold lockL; rw [hbb]
  have hls := last_sum k
  rw [hbb] at hb h13 hls ⊢
  refine ⟨b.length - 1, by rw [hL, List.length_append]; omega, hls, ?_, ?_, ?_, ?_⟩
  · unfold Lib.hasPrefix
    rw [List.isPrefixOf_iff_prefix]
    refine ⟨flatN (k.map Pik.line) ++ sumL b, ?_⟩
    rw [hL, ← hbb, body_flat, List.append_assoc]
  · rw [hL, List.getElem?_append_right (by omega), show b.length - 1 + 13 - b.length = 12 by omega]
    unfold sumL
    rw [List.getElem?_append_right (by simp [hexK_length])]
    simp [hexK_length]
  · rw [hL, show b.length - 1 + 1 = b.length by omega, List.take_left]
  · rw [hL, List.drop_append, List.drop_of_length_le (by omega), List.nil_append, show b.length - 1 + 5 - b.length = 4 by omega]
    unfold sumL
    rw [List.append_assoc]
    show ((hexK 8 (Crc.sum b) ++ [10]).take 8) = _
    rw [List.take_append_of_le_length (by rw [hexK_length]; exact Nat.le_refl _), List.take_of_length_le (by rw [hexK_length]; exact Nat.le_refl _)]
theorem lockIs_no {s : List UInt8} (h : ∀ k, mayB k = true → lockL k ≠ s) : LockIs s [] 370 := .inr ⟨rfl, rfl, h⟩
theorem lockIs_yes {s : List UInt8} {k : List Pik} (h : mayB k = true) (hs : lockL k = s) : LockIs s k 0 := .inl ⟨rfl, h, hs⟩
end Go

namespace Go
open Go.Lib
theorem bLess : ∀ (x y : List UInt8), Op.bytesLess x y = decide (x < y)
  | [], [] => by simp [Op.bytesLess]
  | [], b :: y => by simp [Op.bytesLess]
  | a :: x, [] => by simp [Op.bytesLess]
  | a :: x, b :: y => by
    rw [Op.bytesLess, bLess x y]
    by_cases h1 : a < b
    · simp [h1, List.cons_lt_cons_iff]
    · by_cases h2 : a = b
      · subst h2; simp
      · simp [h1, h2, List.cons_lt_cons_iff]
theorem lt_of_ne {a b : List UInt8} (h : a ≤ b) (hn : a ≠ b) : a < b := by
  by_cases hl : a < b
  · exact hl
  · exact absurd (List.le_antisymm h (List.not_lt.1 hl)) hn
/-- strictly in order -/
def Asc (l : List (List UInt8)) : Prop := l.Pairwise (· < ·)
theorem asc_ext : ∀ {a b : List (List UInt8)}, Asc a → Asc b → (∀ x, x ∈ a ↔ x ∈ b) → a = b
  | [], [], _, _, _ => rfl
  | [], y :: b, _, _, h => absurd ((h y).2 List.mem_cons_self) (by simp)
  | x :: a, [], _, _, h => absurd ((h x).1 List.mem_cons_self) (by simp)
  | x :: a, y :: b, ha, hb, h => by
    obtain ⟨a1, a2⟩ := List.pairwise_cons.1 ha
    obtain ⟨b1, b2⟩ := List.pairwise_cons.1 hb
    have e : x = y := by
      rcases List.mem_cons.1 ((h x).1 List.mem_cons_self) with e | hx
      · exact e
      · rcases List.mem_cons.1 ((h y).2 List.mem_cons_self) with e | hy
        · exact e.symm
        · exact absurd (List.lt_trans (b1 x hx) (a1 y hy)) (List.lt_irrefl y)
    subst e
    rw [asc_ext a2 b2 (fun z => ?_)]
    constructor
    · intro hz
      rcases List.mem_cons.1 ((h z).1 (List.mem_cons_of_mem _ hz)) with e | hz'
      · subst e; exact absurd (a1 z hz) (List.lt_irrefl z)
      · exact hz'
    · intro hz
      rcases List.mem_cons.1 ((h z).2 (List.mem_cons_of_mem _ hz)) with e | hz'
      · subst e; exact absurd (b1 z hz) (List.lt_irrefl z)
      · exact hz'
theorem compact_go (d : Array (List UInt8)) (hs : ∀ i j, i ≤ j → j < d.size → d[i]! ≤ d[j]!) : ∀ m, m ≤ d.size → (∀ x, x ∈ compactUpTo d m ↔ ∃ j, j < m ∧ d[j]! = x) ∧ Asc (compactUpTo d m)
  | 0, _ => ⟨fun x => by simp [compactUpTo], by simp [compactUpTo, Asc]⟩
  | m + 1, hm => by
    obtain ⟨h1, h2⟩ := compact_go d hs m (by omega)
    rw [compactUpTo_succ]
    cases hk : keeps d m
    · have hk' : ¬ (m = 0 ∨ d[m]! ≠ d[m - 1]!) := by
        unfold keeps at hk
        exact of_decide_eq_false hk
      have hm0 : m ≠ 0 := fun e => hk' (.inl e)
      have he : d[m]! = d[m - 1]! := by
        by_cases e : d[m]! = d[m - 1]!
        · exact e
        · exact absurd (.inr e) hk'
      simp only [Bool.false_eq_true, if_false, List.append_nil]
      refine ⟨fun x => ?_, h2⟩
      rw [h1]
      constructor
      · rintro ⟨j, hj, e⟩; exact ⟨j, by omega, e⟩
      · rintro ⟨j, hj, e⟩
        by_cases hjm : j = m
        · subst hjm; exact ⟨j - 1, by omega, by rw [← he]; exact e⟩
        · exact ⟨j, by omega, e⟩
    · have hk' : m = 0 ∨ d[m]! ≠ d[m - 1]! := by
        unfold keeps at hk
        exact of_decide_eq_true hk
      simp only [if_true]
      refine ⟨fun x => ?_, ?_⟩
      · rw [List.mem_append, h1, List.mem_singleton]
        constructor
        · rintro (⟨j, hj, e⟩ | e)
          · exact ⟨j, by omega, e⟩
          · exact ⟨m, by omega, e.symm⟩
        · rintro ⟨j, hj, e⟩
          by_cases hjm : j = m
          · subst hjm; exact .inr e.symm
          · exact .inl ⟨j, by omega, e⟩
      · refine List.pairwise_append.2 ⟨h2, List.pairwise_singleton _ _, fun x hx y hy => ?_⟩
        rw [List.mem_singleton] at hy
        subst hy
        obtain ⟨j, hj, rfl⟩ := (h1 x).1 hx
        rcases hk' with rfl | hne
        · omega
        · have e1 := hs j (m - 1) (by omega) (by omega)
          have e2 := lt_of_ne (hs (m - 1) m (by omega) (by omega)) (fun e => hne e.symm)
          exact List.lt_of_le_of_lt e1 e2
theorem compact_sorted {zs : List (List UInt8)} (hs : zs.Pairwise (· ≤ ·)) : (∀ x, x ∈ compact zs ↔ x ∈ zs) ∧ Asc (compact zs) := by
  have hg : ∀ i j, i ≤ j → j < zs.toArray.size → zs.toArray[i]! ≤ zs.toArray[j]! := by
    intro i j hij hj
    have hj' : j < zs.length := by simpa using hj
    rw [getElem!_pos zs.toArray i (by simp; omega), getElem!_pos zs.toArray j hj]
    simp only [List.getElem_toArray]
    by_cases e : i = j
    · subst e; exact List.le_refl _
    · exact List.pairwise_iff_getElem.1 hs i j (by omega) hj' (by omega)
  obtain ⟨h1, h2⟩ := compact_go zs.toArray hg zs.length (by simp)
  refine ⟨fun x => ?_, h2⟩
  unfold compact
  rw [h1]
  constructor
  · rintro ⟨j, hj, rfl⟩
    rw [getElem!_pos zs.toArray j (by simpa using hj)]
    simp
  · intro hx
    obtain ⟨j, hj, rfl⟩ := List.getElem_of_mem hx
    exact ⟨j, hj, by rw [getElem!_pos zs.toArray j (by simpa using hj)]; simp⟩
theorem sort_names (zs : List (List UInt8)) : (∀ x, x ∈ compact (zs.mergeSort fun x y => decide (x ≤ y)) ↔ x ∈ zs) ∧ Asc (compact (zs.mergeSort fun x y => decide (x ≤ y))) := by
  have hp : (zs.mergeSort fun x y => decide (x ≤ y)).Pairwise (· ≤ ·) := by
    have := List.pairwise_mergeSort (le := fun x y : List UInt8 => decide (x ≤ y)) (fun a b c h1 h2 => by simp only [decide_eq_true_eq] at *; exact List.le_trans h1 h2) (fun a b => by simp only [Bool.or_eq_true, decide_eq_true_eq]; exact List.le_total a b) zs
    exact this.imp (fun h => of_decide_eq_true h)
  obtain ⟨h1, h2⟩ := compact_sorted hp
  exact ⟨fun x => (h1 x).trans List.mem_mergeSort, h2⟩
end Go

namespace Go
open Go.Lib
/-- a name's pick, by its place in the row -/
def pickOf (l : List Pik) (n : List UInt8) : Option Pik := l.find? fun p => p.nm == n
def chgL (x y : Pik) : List UInt8 :=
  if V4.cmp x.v y.v < 0 then [94, 32] ++ x.line ++ [32] ++ y.v.show ++ [10] else if 0 < V4.cmp x.v y.v then [118, 32] ++ x.line ++ [32] ++ y.v.show ++ [10] else []
def plusL (y : Pik) : List UInt8 := [43, 32] ++ y.line ++ [10]
def minusL (x : Pik) : List UInt8 := [45, 32] ++ x.line ++ [10]
/-- a name's line -/
def stepL (old now : List Pik) (n : List UInt8) : List UInt8 := match pickOf old n, pickOf now n with
  | none, none => []
  | none, some y => plusL y
  | some x, none => minusL x
  | some x, some y => chgL x y
def updNames (old now : List Pik) : List (List UInt8) := compact ((old.map Pik.nm ++ now.map Pik.nm).mergeSort fun x y => decide (x ≤ y))
def updL (old now : List Pik) : List UInt8 := (updNames old now).flatMap (stepL old now)
def updShow (old now : List Pik) : List UInt8 × Int := if mayB old && mayB now then (updL old now, 0) else ([], 370)
/-! two rows side by side -/
def mergeNames : List Pik → List Pik → List (List UInt8)
  | [], ys => ys.map Pik.nm
  | x :: xs, [] => (x :: xs).map Pik.nm
  | x :: xs, y :: ys => if x.nm < y.nm then x.nm :: mergeNames xs (y :: ys) else if y.nm < x.nm then y.nm :: mergeNames (x :: xs) ys else x.nm :: mergeNames xs ys
termination_by a b => a.length + b.length
def mergeL : List Pik → List Pik → List UInt8
  | [], ys => ys.flatMap plusL
  | x :: xs, [] => (x :: xs).flatMap minusL
  | x :: xs, y :: ys => if x.nm < y.nm then minusL x ++ mergeL xs (y :: ys) else if y.nm < x.nm then plusL y ++ mergeL (x :: xs) ys else chgL x y ++ mergeL xs ys
termination_by a b => a.length + b.length
/-- names strictly in order -/
def AscP (l : List Pik) : Prop := l.Pairwise fun a b => a.nm < b.nm
theorem may_asc {l : List Pik} (h : mayB l = true) : AscP l := by
  unfold mayB at h
  rw [Bool.and_eq_true] at h
  have hadj : ∀ k, k + 1 < l.length → (l[k]?.map Pik.nm).getD [] < (l[k + 1]?.map Pik.nm).getD [] := fun k hk => by
    have := may_rises h.1 hk
    rw [bLess] at this
    rw [List.getElem?_eq_getElem (by omega), List.getElem?_eq_getElem hk]
    exact of_decide_eq_true this
  have hall : ∀ d k, k + d + 1 < l.length → (l[k]?.map Pik.nm).getD [] < (l[k + d + 1]?.map Pik.nm).getD [] := by
    intro d
    induction d with
    | zero => intro k hk; exact hadj k hk
    | succ d ih => intro k hk; exact List.lt_trans (ih k (by omega)) (hadj (k + d + 1) hk)
  refine List.pairwise_iff_getElem.2 fun i j hi hj hij => ?_
  have := hall (j - i - 1) i (by omega)
  rw [show i + (j - i - 1) + 1 = j by omega, List.getElem?_eq_getElem hi, List.getElem?_eq_getElem hj] at this
  exact this
theorem mergeNames_mem : ∀ (xs ys : List Pik), ∀ n ∈ mergeNames xs ys, n ∈ xs.map Pik.nm ∨ n ∈ ys.map Pik.nm
  | [], ys, n, h => by rw [mergeNames] at h; exact .inr h
  | x :: xs, [], n, h => by rw [mergeNames] at h; exact .inl h
  | x :: xs, y :: ys, n, h => by
    rw [mergeNames] at h
    split at h
    · rcases List.mem_cons.1 h with rfl | h
      · exact .inl List.mem_cons_self
      · rcases mergeNames_mem xs (y :: ys) n h with h | h
        · exact .inl (List.mem_cons_of_mem _ h)
        · exact .inr h
    · split at h
      · rcases List.mem_cons.1 h with rfl | h
        · exact .inr List.mem_cons_self
        · rcases mergeNames_mem (x :: xs) ys n h with h | h
          · exact .inl h
          · exact .inr (List.mem_cons_of_mem _ h)
      · rcases List.mem_cons.1 h with rfl | h
        · exact .inl List.mem_cons_self
        · rcases mergeNames_mem xs ys n h with h | h
          · exact .inl (List.mem_cons_of_mem _ h)
          · exact .inr (List.mem_cons_of_mem _ h)
termination_by xs ys => xs.length + ys.length
theorem same_name {x y : Pik} (h1 : ¬ x.nm < y.nm) (h2 : ¬ y.nm < x.nm) : x.nm = y.nm := List.le_antisymm (List.not_lt.1 h2) (List.not_lt.1 h1)
theorem mergeNames_all : ∀ (xs ys : List Pik), ∀ n, (n ∈ xs.map Pik.nm ∨ n ∈ ys.map Pik.nm) → n ∈ mergeNames xs ys
  | [], ys, n, h => by rw [mergeNames]; rcases h with h | h; cases h; exact h
  | x :: xs, [], n, h => by rw [mergeNames]; rcases h with h | h; exact h; cases h
  | x :: xs, y :: ys, n, h => by
    rw [mergeNames]
    split
    · rcases h with h | h
      · rcases List.mem_cons.1 h with rfl | h
        · exact List.mem_cons_self
        · exact List.mem_cons_of_mem _ (mergeNames_all xs (y :: ys) n (.inl h))
      · exact List.mem_cons_of_mem _ (mergeNames_all xs (y :: ys) n (.inr h))
    · split
      · rcases h with h | h
        · exact List.mem_cons_of_mem _ (mergeNames_all (x :: xs) ys n (.inl h))
        · rcases List.mem_cons.1 h with rfl | h
          · exact List.mem_cons_self
          · exact List.mem_cons_of_mem _ (mergeNames_all (x :: xs) ys n (.inr h))
      · rename_i h1 h2
        have e := same_name h1 h2
        rcases h with h | h
        · rcases List.mem_cons.1 h with rfl | h
          · exact List.mem_cons_self
          · exact List.mem_cons_of_mem _ (mergeNames_all xs ys n (.inl h))
        · rcases List.mem_cons.1 h with rfl | h
          · rw [e]; exact List.mem_cons_self
          · exact List.mem_cons_of_mem _ (mergeNames_all xs ys n (.inr h))
termination_by xs ys => xs.length + ys.length
theorem asc_above {x : Pik} {xs : List Pik} (h : AscP (x :: xs)) : ∀ n ∈ xs.map Pik.nm, x.nm < n := by
  intro n hn
  obtain ⟨p, hp, rfl⟩ := List.mem_map.1 hn
  exact (List.pairwise_cons.1 h).1 p hp
theorem asc_map {xs : List Pik} (h : AscP xs) : Asc (xs.map Pik.nm) := List.pairwise_map.2 h
theorem all_above {x y : Pik} {ys : List Pik} (hy : AscP (y :: ys)) (h : x.nm < y.nm) : ∀ n ∈ (y :: ys).map Pik.nm, x.nm < n := by
  intro n hn
  rcases List.mem_cons.1 hn with rfl | hn
  · exact h
  · exact List.lt_trans h (asc_above hy n hn)
theorem mergeNames_asc : ∀ (xs ys : List Pik), AscP xs → AscP ys → Asc (mergeNames xs ys)
  | [], ys, _, hy => by rw [mergeNames]; exact asc_map hy
  | x :: xs, [], hx, _ => by rw [mergeNames]; exact asc_map hx
  | x :: xs, y :: ys, hx, hy => by
    have hx2 := (List.pairwise_cons.1 hx).2
    have hy2 := (List.pairwise_cons.1 hy).2
    rw [mergeNames]
    split
    · rename_i h
      refine List.pairwise_cons.2 ⟨fun n hn => ?_, mergeNames_asc xs (y :: ys) hx2 hy⟩
      rcases mergeNames_mem _ _ n hn with hn | hn
      · exact asc_above hx n hn
      · exact all_above hy h n hn
    · split
      · rename_i h
        refine List.pairwise_cons.2 ⟨fun n hn => ?_, mergeNames_asc (x :: xs) ys hx hy2⟩
        rcases mergeNames_mem _ _ n hn with hn | hn
        · exact all_above hx h n hn
        · exact asc_above hy n hn
      · rename_i h1 h2
        have e := same_name h1 h2
        refine List.pairwise_cons.2 ⟨fun n hn => ?_, mergeNames_asc xs ys hx2 hy2⟩
        rcases mergeNames_mem _ _ n hn with hn | hn
        · exact asc_above hx n hn
        · rw [e]; exact asc_above hy n hn
termination_by xs ys => xs.length + ys.length
theorem names_merge {old now : List Pik} (ho : AscP old) (hn : AscP now) : updNames old now = mergeNames old now := by
  obtain ⟨h1, h2⟩ := sort_names (old.map Pik.nm ++ now.map Pik.nm)
  refine asc_ext h2 (mergeNames_asc _ _ ho hn) fun x => ?_
  show x ∈ compact _ ↔ _
  rw [h1, List.mem_append]
  exact ⟨mergeNames_all _ _ x, mergeNames_mem _ _ x⟩
theorem pickOf_none {l : List Pik} {n : List UInt8} (h : ∀ m ∈ l.map Pik.nm, n < m) : pickOf l n = none := by
  unfold pickOf
  rw [List.find?_eq_none]
  intro p hp he
  have := h _ (List.mem_map_of_mem hp)
  rw [beq_iff_eq.1 he] at this
  exact List.lt_irrefl _ this
theorem pickOf_head (x : Pik) (xs : List Pik) : pickOf (x :: xs) x.nm = some x := by
  unfold pickOf
  rw [List.find?_cons_of_pos (by simp)]
theorem pickOf_skip {x : Pik} {xs : List Pik} {n : List UInt8} (h : x.nm < n) : pickOf (x :: xs) n = pickOf xs n := by
  unfold pickOf
  rw [List.find?_cons_of_neg]
  intro he
  rw [beq_iff_eq.1 he] at h
  exact List.lt_irrefl _ h
theorem flat_congr {f g : List UInt8 → List UInt8} : ∀ {l : List (List UInt8)}, (∀ n ∈ l, f n = g n) → l.flatMap f = l.flatMap g
  | [], _ => rfl
  | n :: l, h => by
    rw [List.flatMap_cons, List.flatMap_cons, h n List.mem_cons_self, flat_congr (fun m hm => h m (List.mem_cons_of_mem _ hm))]
theorem plus_all : ∀ (ys : List Pik), AscP ys → (ys.map Pik.nm).flatMap (stepL [] ys) = ys.flatMap plusL
  | [], _ => rfl
  | y :: ys, h => by
    rw [List.map_cons, List.flatMap_cons, List.flatMap_cons, ← plus_all ys (List.pairwise_cons.1 h).2]
    congr 1
    · unfold stepL; rw [pickOf_head]; rfl
    · refine flat_congr fun n hn => ?_
      unfold stepL; rw [pickOf_skip (asc_above h n hn)]
theorem minus_all : ∀ (xs : List Pik), AscP xs → (xs.map Pik.nm).flatMap (stepL xs []) = xs.flatMap minusL
  | [], _ => rfl
  | x :: xs, h => by
    rw [List.map_cons, List.flatMap_cons, List.flatMap_cons, ← minus_all xs (List.pairwise_cons.1 h).2]
    congr 1
    · unfold stepL; rw [pickOf_head]; rfl
    · refine flat_congr fun n hn => ?_
      unfold stepL; rw [pickOf_skip (asc_above h n hn)]
theorem merge_step : ∀ (xs ys : List Pik), AscP xs → AscP ys → (mergeNames xs ys).flatMap (stepL xs ys) = mergeL xs ys
  | [], ys, _, hy => by rw [mergeNames, mergeL, plus_all ys hy]
  | x :: xs, [], hx, _ => by rw [mergeNames, mergeL, minus_all _ hx]
  | x :: xs, y :: ys, hx, hy => by
    have hx2 := (List.pairwise_cons.1 hx).2
    have hy2 := (List.pairwise_cons.1 hy).2
    rw [mergeNames, mergeL]
    split
    · rename_i h
      rw [List.flatMap_cons, ← merge_step xs (y :: ys) hx2 hy]
      congr 1
      · unfold stepL; rw [pickOf_head, pickOf_none (all_above hy h)]
      · refine flat_congr fun n hn => ?_
        have hl : x.nm < n := by
          rcases mergeNames_mem _ _ n hn with hn | hn
          · exact asc_above hx n hn
          · exact all_above hy h n hn
        unfold stepL; rw [pickOf_skip hl]
    · split
      · rename_i h
        rw [List.flatMap_cons, ← merge_step (x :: xs) ys hx hy2]
        congr 1
        · unfold stepL; rw [pickOf_head, pickOf_none (all_above hx h)]
        · refine flat_congr fun n hn => ?_
          have hl : y.nm < n := by
            rcases mergeNames_mem _ _ n hn with hn | hn
            · exact all_above hx h n hn
            · exact asc_above hy n hn
          unfold stepL; rw [pickOf_skip hl]
      · rename_i h1 h2
        have e := same_name h1 h2
        rw [List.flatMap_cons, ← merge_step xs ys hx2 hy2]
        congr 1
        · unfold stepL; rw [pickOf_head, e, pickOf_head]
        · refine flat_congr fun n hn => ?_
          have hl : x.nm < n := by
            rcases mergeNames_mem _ _ n hn with hn | hn
            · exact asc_above hx n hn
            · rw [e]; exact asc_above hy n hn
          have hl2 : y.nm < n := by rw [← e]; exact hl
          unfold stepL; rw [pickOf_skip hl, pickOf_skip hl2]
termination_by xs ys => xs.length + ys.length
theorem upd_merge {old now : List Pik} (ho : mayB old = true) (hn : mayB now = true) : updL old now = mergeL old now := by
  unfold updL
  rw [names_merge (may_asc ho) (may_asc hn), merge_step _ _ (may_asc ho) (may_asc hn)]
end Go

namespace Go
theorem turned_no {l : List Pik} {u z : List UInt8} {x y : UInt8} (h : lockL l = u ++ x :: z) (hxy : x ≠ y) : LockIs (u ++ y :: z) [] 370 := lockIs_no fun _ _ hs => hxy (lock_turn h hs)
theorem cut_no {l : List Pik} (hl : mayB l = true) {at' : Nat} (h : at' < (lockL l).length) : LockIs ((lockL l).take at') [] 370 := lockIs_no fun k hk hs => by
  have e : lockL k ++ (lockL l).drop at' = lockL l := by rw [hs, List.take_append_drop]
  have h2 := congrArg List.length (lock_pre hk hl e)
  rw [List.length_drop, List.length_nil] at h2
  omega
theorem behind_no {l : List Pik} (hl : mayB l = true) {r : List UInt8} (h : r ≠ []) : LockIs (lockL l ++ r) [] 370 := lockIs_no fun _ hk hs => h (lock_pre hl hk hs.symm)
end Go

namespace Go
open Go.Lib
def chgW (x y : Pik) : List (List (List UInt8)) :=
  if V4.cmp x.v y.v < 0 then [[[94], x.nm, x.v.show, y.v.show]] else if 0 < V4.cmp x.v y.v then [[[118], x.nm, x.v.show, y.v.show]] else []
def plusW (y : Pik) : List (List UInt8) := [[43], y.nm, y.v.show]
def minusW (x : Pik) : List (List UInt8) := [[45], x.nm, x.v.show]
def mergeW : List Pik → List Pik → List (List (List UInt8))
  | [], ys => ys.map plusW
  | x :: xs, [] => (x :: xs).map minusW
  | x :: xs, y :: ys => if x.nm < y.nm then minusW x :: mergeW xs (y :: ys) else if y.nm < x.nm then plusW y :: mergeW (x :: xs) ys else chgW x y ++ mergeW xs ys
termination_by a b => a.length + b.length
theorem plus_join (y : Pik) : plusL y = joinAt 32 (plusW y) ++ [10] := by unfold plusL plusW Pik.line; simp [joinAt]
theorem minus_join (y : Pik) : minusL y = joinAt 32 (minusW y) ++ [10] := by unfold minusL minusW Pik.line; simp [joinAt]
theorem plus_flat (ys : List Pik) : ys.flatMap plusL = flatN ((ys.map plusW).map (joinAt 32)) := by
  induction ys with
  | nil => rfl
  | cons y ys ih => rw [List.flatMap_cons, ih, plus_join]; simp [flatN]
theorem minus_flat (ys : List Pik) : ys.flatMap minusL = flatN ((ys.map minusW).map (joinAt 32)) := by
  induction ys with
  | nil => rfl
  | cons y ys ih => rw [List.flatMap_cons, ih, minus_join]; simp [flatN]
theorem chg_flat (x y : Pik) : chgL x y = flatN ((chgW x y).map (joinAt 32)) := by
  unfold chgL chgW Pik.line
  split
  · simp [flatN, joinAt]
  · split
    · simp [flatN, joinAt]
    · rfl
theorem merge_flat : ∀ (xs ys : List Pik), mergeL xs ys = flatN ((mergeW xs ys).map (joinAt 32))
  | [], ys => by rw [mergeL, mergeW]; exact plus_flat ys
  | x :: xs, [] => by rw [mergeL, mergeW]; exact minus_flat _
  | x :: xs, y :: ys => by
    rw [mergeL, mergeW]
    split
    · rw [merge_flat xs (y :: ys), minus_join]; simp [flatN]
    · split
      · rw [merge_flat (x :: xs) ys, plus_join]; simp [flatN]
      · rw [merge_flat xs ys, chg_flat, List.map_append, flatN_app]
termination_by xs ys => xs.length + ys.length
/-- a sign the other way round -/
def turnS (s : List UInt8) : List UInt8 := if s = [43] then [45] else if s = [45] then [43] else if s = [94] then [118] else [94]
def turnW : List (List UInt8) → List (List UInt8)
  | [c, n, v] => [turnS c, n, v]
  | [c, n, v, u] => [turnS c, n, u, v]
  | x => x
theorem chg_turn (x y : Pik) (h : x.nm = y.nm) : chgW y x = (chgW x y).map turnW := by
  have hc := good_v4.1 x.v y.v
  unfold chgW
  by_cases h1 : V4.cmp x.v y.v < 0
  · rw [if_pos h1, if_neg (by omega), if_pos (by omega), h]; rfl
  · by_cases h2 : 0 < V4.cmp x.v y.v
    · rw [if_pos (by omega), if_neg h1, if_pos h2, h]; rfl
    · rw [if_neg (by omega), if_neg (by omega), if_neg h1, if_neg h2]; rfl
theorem merge_turn : ∀ (xs ys : List Pik), mergeW ys xs = (mergeW xs ys).map turnW
  | [], [] => by rw [mergeW]; rfl
  | [], y :: ys => by
    rw [mergeW, mergeW, List.map_map]
    rfl
  | x :: xs, [] => by
    rw [mergeW, mergeW, List.map_map]
    rfl
  | x :: xs, y :: ys => by
    rw [mergeW, mergeW]
    by_cases h1 : x.nm < y.nm
    · have h2 : ¬ y.nm < x.nm := fun h => List.lt_irrefl _ (List.lt_trans h1 h)
      rw [if_neg h2, if_pos h1, if_pos h1, merge_turn xs (y :: ys)]; rfl
    · by_cases h2 : y.nm < x.nm
      · rw [if_pos h2, if_neg h1, if_pos h2, merge_turn (x :: xs) ys]; rfl
      · rw [if_neg h2, if_neg h1, if_neg h1, if_neg h2, merge_turn xs ys, chg_turn x y (same_name h1 h2), List.map_append]
termination_by xs ys => xs.length + ys.length
theorem merge_self : ∀ (xs : List Pik), mergeW xs xs = []
  | [] => by rw [mergeW]; rfl
  | x :: xs => by
    have hl : ¬ x.nm < x.nm := List.lt_irrefl _
    have hc := good_v4.self x.v
    rw [mergeW, if_neg hl, if_neg hl, merge_self xs]
    unfold chgW
    rw [if_neg (by omega), if_neg (by omega)]; rfl
/-- a line's words: a sign, a name, one version or two -/
def LineW (x : List (List UInt8)) : Prop := (∃ c n v, x = [c, n, v]) ∨ ∃ c n v u, x = [c, n, v, u]
def WordOk (x : List UInt8) : Prop := ∀ c ∈ x, c ≠ 10 ∧ c ≠ 32
theorem word_name {p : Pik} (h : p.ok = true) : WordOk p.nm := fun c hc => ⟨name_no (pik_parts h).1 10 (by decide) c hc, name_no (pik_parts h).1 32 (by decide) c hc⟩
theorem word_ver {p : Pik} (h : p.ok = true) : WordOk p.v.show := fun c hc => by
  have := show_gt (pik_parts h).2 c hc
  constructor <;> (rintro rfl; exact absurd this (by decide))
theorem word_sign {c : UInt8} (h : c ≠ 10 ∧ c ≠ 32) : WordOk [c] := fun x hx => by simp at hx; subst hx; exact h
theorem plus_ok {y : Pik} (h : y.ok = true) : LineW (plusW y) ∧ ∀ t ∈ plusW y, WordOk t := ⟨.inl ⟨_, _, _, rfl⟩, fun t ht => by
  unfold plusW at ht
  simp only [List.mem_cons, List.not_mem_nil, or_false] at ht
  rcases ht with rfl | rfl | rfl
  · exact word_sign (by decide)
  · exact word_name h
  · exact word_ver h⟩
theorem minus_ok {y : Pik} (h : y.ok = true) : LineW (minusW y) ∧ ∀ t ∈ minusW y, WordOk t := ⟨.inl ⟨_, _, _, rfl⟩, fun t ht => by
  unfold minusW at ht
  simp only [List.mem_cons, List.not_mem_nil, or_false] at ht
  rcases ht with rfl | rfl | rfl
  · exact word_sign (by decide)
  · exact word_name h
  · exact word_ver h⟩
theorem chg_ok {x y : Pik} (h : x.ok = true) (h' : y.ok = true) : ∀ l ∈ chgW x y, LineW l ∧ ∀ t ∈ l, WordOk t := fun l hl => by
  unfold chgW at hl
  split at hl
  · simp only [List.mem_singleton] at hl
    subst hl
    refine ⟨.inr ⟨_, _, _, _, rfl⟩, fun t ht => ?_⟩
    simp only [List.mem_cons, List.not_mem_nil, or_false] at ht
    rcases ht with rfl | rfl | rfl | rfl
    · exact word_sign (by decide)
    · exact word_name h
    · exact word_ver h
    · exact word_ver h'
  · split at hl
    · simp only [List.mem_singleton] at hl
      subst hl
      refine ⟨.inr ⟨_, _, _, _, rfl⟩, fun t ht => ?_⟩
      simp only [List.mem_cons, List.not_mem_nil, or_false] at ht
      rcases ht with rfl | rfl | rfl | rfl
      · exact word_sign (by decide)
      · exact word_name h
      · exact word_ver h
      · exact word_ver h'
    · cases hl
theorem merge_ok : ∀ (xs ys : List Pik), (∀ p ∈ xs, p.ok = true) → (∀ p ∈ ys, p.ok = true) → ∀ l ∈ mergeW xs ys, LineW l ∧ ∀ t ∈ l, WordOk t
  | [], ys, _, hy, l, hl => by
    rw [mergeW] at hl
    obtain ⟨y, hm, rfl⟩ := List.mem_map.1 hl
    exact plus_ok (hy y hm)
  | x :: xs, [], hx, _, l, hl => by
    rw [mergeW] at hl
    obtain ⟨y, hm, rfl⟩ := List.mem_map.1 hl
    exact minus_ok (hx y hm)
  | x :: xs, y :: ys, hx, hy, l, hl => by
    have hx2 : ∀ p ∈ xs, p.ok = true := fun p hp => hx p (List.mem_cons_of_mem _ hp)
    have hy2 : ∀ p ∈ ys, p.ok = true := fun p hp => hy p (List.mem_cons_of_mem _ hp)
    rw [mergeW] at hl
    split at hl
    · rcases List.mem_cons.1 hl with rfl | hl
      · exact minus_ok (hx x List.mem_cons_self)
      · exact merge_ok xs (y :: ys) hx2 hy l hl
    · split at hl
      · rcases List.mem_cons.1 hl with rfl | hl
        · exact plus_ok (hy y List.mem_cons_self)
        · exact merge_ok (x :: xs) ys hx hy2 l hl
      · rcases List.mem_append.1 hl with hl | hl
        · exact chg_ok (hx x List.mem_cons_self) (hy y List.mem_cons_self) l hl
        · exact merge_ok xs ys hx2 hy2 l hl
termination_by xs ys => xs.length + ys.length
theorem line_ne {l : List (List UInt8)} (h : LineW l) : l ≠ [] := by rcases h with ⟨_, _, _, rfl⟩ | ⟨_, _, _, _, rfl⟩ <;> simp
theorem line_words {l : List (List UInt8)} (h : LineW l) (hw : ∀ t ∈ l, WordOk t) : sepAt 32 (joinAt 32 l) = l := sepAt_join (line_ne h) fun p hp x hx => (hw p hp x hx).2
theorem wline_no {l : List (List UInt8)} (h : LineW l) (hw : ∀ t ∈ l, WordOk t) : ∀ c ∈ joinAt 32 l, c ≠ 10 := by
  have key : ∀ t ∈ l, ∀ c ∈ t, c ≠ 10 := fun t ht c hc => (hw t ht c hc).1
  rcases h with ⟨c, n, v, rfl⟩ | ⟨c, n, v, u, rfl⟩
  · intro x hx
    simp only [joinAt, List.mem_append, List.mem_cons] at hx
    rcases hx with hx | rfl | hx | rfl | hx
    · exact key _ (by simp) x hx
    · decide
    · exact key _ (by simp) x hx
    · decide
    · exact key _ (by simp) x hx
  · intro x hx
    simp only [joinAt, List.mem_append, List.mem_cons] at hx
    rcases hx with hx | rfl | hx | rfl | hx | rfl | hx
    · exact key _ (by simp) x hx
    · decide
    · exact key _ (by simp) x hx
    · decide
    · exact key _ (by simp) x hx
    · decide
    · exact key _ (by simp) x hx
/-- the pieces of a text of lines -/
def updPieces (old now : List Pik) : List (List UInt8) := (mergeW old now).map (joinAt 32) ++ [[]]
theorem upd_pieces {old now : List Pik} (ho : mayB old = true) (hn : mayB now = true) : sepAt 10 (updL old now) = updPieces old now := by
  rw [upd_merge ho hn, merge_flat]
  refine sep_lines0 _ fun t ht => ?_
  obtain ⟨l, hl, rfl⟩ := List.mem_map.1 ht
  obtain ⟨h1, h2⟩ := merge_ok old now (may_all ho).1 (may_all hn).1 l hl
  exact wline_no h1 h2
theorem pieces_len (old now : List Pik) : (updPieces old now).length = (updPieces now old).length := by
  unfold updPieces
  rw [merge_turn now old]; simp
/-- the two ways' words at one place -/
def TwinW (x y : List (List UInt8)) : Prop := (∃ p q, x = [p] ∧ y = [q]) ∨ (∃ c n v, x = [c, n, v] ∧ y = [turnS c, n, v]) ∨ ∃ c n v u, x = [c, n, v, u] ∧ y = [turnS c, n, u, v]
theorem piece_at {xs ys : List Pik} {k : Nat} (h : k < (updPieces xs ys).length) (hk : k < (mergeW xs ys).length) : (updPieces xs ys)[k] = joinAt 32 (mergeW xs ys)[k] := by
  have e : (updPieces xs ys)[k]? = some (joinAt 32 (mergeW xs ys)[k]) := by
    unfold updPieces
    rw [List.getElem?_append_left (by rw [List.length_map]; exact hk), List.getElem?_map, List.getElem?_eq_getElem hk]; rfl
  rw [List.getElem?_eq_getElem h] at e
  injection e
theorem piece_end {xs ys : List Pik} {k : Nat} (h : k < (updPieces xs ys).length) (hk : k = (mergeW xs ys).length) : (updPieces xs ys)[k] = [] := by
  have e : (updPieces xs ys)[k]? = some [] := by
    unfold updPieces
    rw [List.getElem?_append_right (by rw [List.length_map]; omega), List.length_map, hk, Nat.sub_self]; rfl
  rw [List.getElem?_eq_getElem h] at e
  injection e
theorem pieces_twin {old now : List Pik} (ho : mayB old = true) (hn : mayB now = true) {k : Nat} (h : k < (updPieces old now).length) (h' : k < (updPieces now old).length) :
    TwinW (sepAt 32 (updPieces old now)[k]) (sepAt 32 (updPieces now old)[k]) := by
  have hl : (updPieces old now).length = (mergeW old now).length + 1 := by unfold updPieces; simp
  by_cases hk : k < (mergeW old now).length
  · have hk' : k < (mergeW now old).length := by rw [merge_turn old now, List.length_map]; exact hk
    have e1 := piece_at h hk
    have e2 := piece_at h' hk'
    obtain ⟨h1, h2⟩ := merge_ok old now (may_all ho).1 (may_all hn).1 _ (List.getElem_mem hk)
    obtain ⟨g1, g2⟩ := merge_ok now old (may_all hn).1 (may_all ho).1 _ (List.getElem_mem hk')
    rw [e1, e2, line_words h1 h2, line_words g1 g2]
    have e3 : (mergeW now old)[k] = turnW (mergeW old now)[k] := by
      have : (mergeW now old)[k]? = ((mergeW old now).map turnW)[k]? := by rw [← merge_turn old now]
      rw [List.getElem?_eq_getElem hk', List.getElem?_map, List.getElem?_eq_getElem hk] at this
      injection this
    rw [e3]
    rcases h1 with ⟨c, n, v, e⟩ | ⟨c, n, v, u, e⟩
    · rw [e]; exact .inr (.inl ⟨c, n, v, rfl, rfl⟩)
    · rw [e]; exact .inr (.inr ⟨c, n, v, u, rfl, rfl⟩)
  · have hk2 : k = (mergeW old now).length := by omega
    have hk3 : k = (mergeW now old).length := by rw [merge_turn old now, List.length_map]; exact hk2
    have e1 := piece_end h hk2
    have e2 := piece_end h' hk3
    rw [e1, e2]
    exact .inl ⟨[], [], rfl, rfl⟩
theorem upd_self {l : List Pik} (h : mayB l = true) : updL l l = [] := by
  rw [upd_merge h h, merge_flat, merge_self]; rfl
end Go
