/- A bound's text in plain Lean. The lines of a search in plain Lean: what a line asks for, what lines ask for, two texts of lines. Needs and picks in memory: rows; what a loop has gathered of both. Sums of bytes, in plain Lean: a byte that is another one is seen. Locks as texts, plainly: what is written; what a text is. Locks as texts, plainly: lines; what was written is read as it was; nothing may stand behind; one byte that is another one is seen. Locks, plainly: what leads from one to another: names in order; two rows side by side. Choices, plainly and in memory: offers and packages; what is locked; what may be chosen, and in which order. -/
import Derived.Test.YtbgimpeklblcjaaGreatDoorVerMath
import Derived.Test.YtbgimpeklblcjaaGreatDoorSemCom
import Derived.Test.YtbgimpeklblcjaaGreatDoorCmdPlain
import Derived.Test.YtbgimpeklblcjaaGreatDoorCells
import Derived.Maps.AppendAt
import Derived.Test.YtbgimpeklblcjaaGreatDoorBase
import Derived.Test.YtbgimpeklblcjaaGreatDoorLexMath
import Derived.Lib.LastIndexLaws
import Derived.Lib.SlicesCompact
namespace Go
open Go.RowKit
def Bnd.zero : Bnd := ⟨0, V4.zero⟩
end Go

namespace Go
/-- a need; a pick -/
structure Want where
 name : List UInt8
 bs : List Bnd
structure Pck where
 name : List UInt8
 v : V4
end Go

namespace Go
open Go.RowKit
/-- two slices in different blocks -/
def ApartV (v u : Value) : Prop := ∀ g, v.ownBlock = some g → u.ownBlock ≠ some g
theorem ApartV.symm {v u : Value} (h : ApartV v u) : ApartV u v := fun g h1 h2 => h g h2 h1
theorem ApartV.nil (v : Value) : ApartV (.slice none 0 0) v := fun g h => by cases h
theorem Row.grew {W w' : World} {size n : Nat} {v : Value} {xs : List Value} (h : Row W size v n xs) {u : Option Nat} (ha : 0 < n → ∀ g, v.ownBlock = some g → u ≠ some g) (hg : W.grownBy w' u) : Row w' size v n xs := by
 obtain ⟨h1, h2, h3 | ⟨b, off, cap, h3, h4, h5, h6⟩⟩ := h
 ·exact ⟨h1, h2, .inl h3⟩
 ·have hr : u ≠ some b := by subst h3; exact ha h4 b rfl
  refine ⟨h1, h2, .inr ⟨b, off, cap, h3, h4, Nat.lt_of_lt_of_le h5 hg.size, fun j hj => ?_⟩⟩
  rw [World.cell?_of_block (w := W) (a := ⟨b, off + j, none⟩) (hg.block b h5 (fun e => hr e.symm))]
  exact h6 j hj
theorem fresh_apart {w : World} {B : Nat} {e : TypeId} {size n : Nat} {v u : Value} {xs : List Value} (hf : FreshV w.heap.size u) (h : w.ownsRow B e size v n xs) : ApartV u v := by
 intro g h1 h2
 have h3 := (h.lt g h2).2
 cases u with
 | slice a m c =>
  cases a with
  | none => cases h1
  | some a =>
   have := hf a m c rfl
   have h4 : a.block = g := by injection h1
   omega
 | _ => cases h1
def WCells (x : Want × Value) : List Value := [.string (S x.1.name), x.2]
def Pck.cells (p : Pck) : List Value := [.string (S p.name), .int .i64 p.v.a, .int .i64 p.v.b, .int .i64 p.v.c, .string p.v.p]
/-- the range of a need lies there -/
def RvOk (w : World) (x : Want × Value) : Prop := Bnds w x.2 x.1.bs ∧ ∃ a cap, x.2 = .slice a x.1.bs.length cap
def Wants (w : World) (v : Value) (xs : List (Want × Value)) : Prop := Row w 2 v xs.length (xs.flatMap WCells) ∧ ∀ x ∈ xs, RvOk w x
def Pcks (w : World) (v : Value) (ps : List Pck) : Prop := Row w 5 v ps.length (ps.flatMap Pck.cells)
theorem RvOk.below {w w' : World} {x : Want × Value} (h : RvOk w x) {B : Nat} (hb : Below B w w') (hB : w.heap.size ≤ B) : RvOk w' x := ⟨h.1.below hb hB, h.2⟩
theorem Wants.below {w w' : World} {v : Value} {xs : List (Want × Value)} (h : Wants w v xs) {B : Nat} (hb : Below B w w') (hB : w.heap.size ≤ B) : Wants w' v xs := ⟨Row.below h.1 hb hB, fun x hx => (h.2 x hx).below hb hB⟩
theorem Pcks.below {w w' : World} {v : Value} {xs : List Pck} (h : Pcks w v xs) {B : Nat} (hb : Below B w w') (hB : w.heap.size ≤ B) : Pcks w' v xs := Row.below h hb hB
theorem Wants.nil (w : World) : Wants w (.slice none 0 0) [] := ⟨⟨rfl, Nat.zero_le _, .inl ⟨_, _, rfl, rfl, fun _ => rfl⟩⟩, fun x hx => by cases hx⟩
theorem Pcks.nil (w : World) : Pcks w (.slice none 0 0) [] := ⟨rfl, Nat.zero_le _, .inl ⟨_, _, rfl, rfl, fun _ => rfl⟩⟩
theorem RvOk.grew {W w' : World} {x : Want × Value} (h : RvOk W x) {u : Option Nat} (ha : x.1.bs ≠ [] → ∀ g, x.2.ownBlock = some g → u ≠ some g) (hg : W.grownBy w' u) : RvOk w' x :=
 ⟨Row.grew h.1 (fun hn => ha (List.length_pos_iff.1 hn)) hg, h.2⟩
theorem RvOk.lt {w : World} {x : Want × Value} (h : RvOk w x) (hn : x.1.bs ≠ []) {g : Nat} (hg : x.2.ownBlock = some g) : g < w.heap.size := by
 obtain ⟨_, _, ⟨a, cap, h3, h4, _⟩ | ⟨b, off, cap, h3, h4, h5, h6⟩⟩ := h.1
 ·exact absurd (List.eq_nil_of_length_eq_zero h4) hn
 ·rw [h3] at hg
  have h7 : b = g := by injection hg
  omega
/-- what a search's loop has gathered -/
structure Got (TN TP : TypeId) (B : Nat) (w : World) (vn vp : Value) (ns : List (Want × Value)) (ps : List Pck) : Prop where
 needs : w.ownsRow B TN 2 vn ns.length (ns.flatMap WCells)
 picks : w.ownsRow B TP 5 vp ps.length (ps.flatMap Pck.cells)
 ap : ApartV vn vp
 fn : ∃ a cap, vn = .slice a ns.length cap
 fp : ∃ a cap, vp = .slice a ps.length cap
 els : ∀ x ∈ ns, RvOk w x ∧ (x.1.bs ≠ [] → ApartV x.2 vn ∧ ApartV x.2 vp)
section
variable {TN TP : TypeId} {B : Nat} {w w' : World} {vn vp : Value} {ns : List (Want × Value)} {ps : List Pck}
theorem Got.start (TN TP : TypeId) (B : Nat) (w : World) : Got TN TP B w (.slice none 0 0) (.slice none 0 0) [] [] :=
 ⟨World.ownsRow_nil _ _ _ _, World.ownsRow_nil _ _ _ _, ApartV.nil _, ⟨_, _, rfl⟩, ⟨_, _, rfl⟩, fun x hx => by cases hx⟩
theorem Got.below (h : Got TN TP B w vn vp ns ps) (hb : Below w.heap.size w w') : Got TN TP B w' vn vp ns ps :=
 ⟨owns_below h.needs hb, owns_below h.picks hb, h.ap, h.fn, h.fp, fun x hx => ⟨(h.els x hx).1.below hb (Nat.le_refl _), (h.els x hx).2⟩⟩
theorem Got.alloc (h : Got TN TP B w vn vp ns ps) (o : Obj) : Got TN TP B (w.alloc o) vn vp ns ps := h.below ((Below.refl _ _).alloc (Nat.le_refl _) o)
theorem Got.wants (h : Got TN TP B w vn vp ns ps) : Wants w vn ns := ⟨Row.of_owns h.needs, fun x hx => (h.els x hx).1⟩
theorem own_kept {B : Nat} {e : TypeId} {size n : Nat} {u : Value} {xs : List Value} {row : Option Nat} (hu : w.ownsRow B e size u n xs) (h : ∀ g, u.ownBlock = some g → row ≠ some g) (hg : w.grownBy w' row) : w'.ownsRow B e size u n xs := by
 refine hu.kept hg ?_
 cases hb : u.ownBlock with
 | none => exact .inl rfl
 | some g => right; intro e; exact h g hb e.symm
theorem Got.need (h : Got TN TP B w vn vp ns ps) {x : Want} {rv vn' : Value} {m : Nat} (hx : RvOk w (x, rv)) (hap : x.bs ≠ [] → ApartV rv vn ∧ ApartV rv vp) (hown : w'.ownsRow B TN 2 vn' m (ns.flatMap WCells ++ [.string (S x.name), rv])) (hm : m = ns.length + 1)
  (hg : w.grownBy w' vn.ownBlock) (hbk : vn'.ownBlock = vn.ownBlock ∨ vn'.ownBlock = some w.heap.size) : Got TN TP B w' vn' vp (ns ++ [(x, rv)]) ps := by
 have hpa : ApartV vn' vp := by
  intro g h1 h2
  rcases hbk with hb | hb
  ·exact h.ap g (by rw [← hb]; exact h1) h2
  ·have := (h.picks.lt g h2).2
   rw [hb] at h1; injection h1 with h1; omega
 have hel : ∀ y : Want × Value, RvOk w y → (y.1.bs ≠ [] → ApartV y.2 vn ∧ ApartV y.2 vp) → RvOk w' y ∧ (y.1.bs ≠ [] → ApartV y.2 vn' ∧ ApartV y.2 vp) := by
  intro y h1 h2
  refine ⟨h1.grew (fun hn g hgy => fun e => (h2 hn).1 g hgy e) hg, fun hn => ⟨fun g hgy hgv => ?_, (h2 hn).2⟩⟩
  rcases hbk with hb | hb
  ·exact (h2 hn).1 g hgy (by rw [← hb]; exact hgv)
  ·have := h1.lt hn hgy
   rw [hb] at hgv; injection hgv with hgv; omega
 subst hm
 refine ⟨?_, own_kept h.picks (fun g h1 h2 => h.ap g h2 h1) hg, hpa, ?_, h.fp, ?_⟩
 ·rw [List.flatMap_append, List.length_append]; exact hown
 ·obtain ⟨g, cap, hv⟩ := Joins.ownsRow_form hown (by omega)
  exact ⟨_, cap, by rw [hv, List.length_append]; rfl⟩
 ·intro y hy
  rcases List.mem_append.1 hy with hy | hy
  ·exact hel y (h.els y hy).1 (h.els y hy).2
  ·simp at hy; subst hy; exact hel _ hx hap
theorem Got.pick (h : Got TN TP B w vn vp ns ps) {x : Pck} {vp' : Value} {m : Nat} (hown : w'.ownsRow B TP 5 vp' m (ps.flatMap Pck.cells ++ x.cells)) (hm : m = ps.length + 1)
  (hg : w.grownBy w' vp.ownBlock) (hbk : vp'.ownBlock = vp.ownBlock ∨ vp'.ownBlock = some w.heap.size) : Got TN TP B w' vn vp' ns (ps ++ [x]) := by
 have hpa : ApartV vn vp' := by
  intro g h1 h2
  rcases hbk with hb | hb
  ·exact h.ap g h1 (by rw [← hb]; exact h2)
  ·have := (h.needs.lt g h1).2
   rw [hb] at h2; injection h2 with h2; omega
 subst hm
 refine ⟨own_kept h.needs (fun g h1 h2 => h.ap g h1 h2) hg, ?_, hpa, h.fn, ?_, ?_⟩
 ·rw [List.flatMap_append, List.length_append]; simpa using hown
 ·obtain ⟨g, cap, hv⟩ := Joins.ownsRow_form hown (by omega)
  exact ⟨_, cap, by rw [hv, List.length_append]; rfl⟩
 ·intro y hy
  obtain ⟨h1, h2⟩ := h.els y hy
  refine ⟨h1.grew (fun hn g hgy e => (h2 hn).2 g hgy e) hg, fun hn => ⟨(h2 hn).1, fun g hgy hgv => ?_⟩⟩
  rcases hbk with hb | hb
  ·exact (h2 hn).2 g hgy (by rw [← hb]; exact hgv)
  ·have := h1.lt hn hgy
   rw [hb] at hgv; injection hgv with hgv; omega
end
end Go

namespace Go.Crc
def poly : Nat := 2197175160
/-- one step of the register -/
def bit (r : Nat) : Nat := (r / 2) ^^^ (if r % 2 = 1 then poly else 0)
def iter : Nat → Nat → Nat
 | 0, r => r
 | n + 1, r => bit (iter n r)
/-- a byte goes in -/
def byte (r : Nat) (b : UInt8) : Nat := iter 8 (r ^^^ b.toNat)
def run (r : Nat) (l : List UInt8) : Nat := l.foldl byte r
def sum (l : List UInt8) : Nat := 4294967295 - run 4294967295 l
end Go.Crc

namespace Go
open Go.RowKit
/-- a pick -/
structure Pik where
 name : ByteArray
 v : V4
def Pik.cells (p : Pik) : List Value := [.string p.name, .int .i64 p.v.a, .int .i64 p.v.b, .int .i64 p.v.c, .string p.v.p]
def Piks (w : World) (v : Value) (ps : List Pik) : Prop := Row w 5 v ps.length (ps.flatMap Pik.cells)
theorem Piks.below {w w' : World} {v : Value} {ps : List Pik} (h : Piks w v ps) {B : Nat} (hb : Below B w w') (hB : w.heap.size ≤ B) : Piks w' v ps := Row.below h hb hB
theorem piks_get (vs : List Pik) : ∀ (j : Nat) (h : j < vs.length) (i : Nat), i < 5 → (vs.flatMap Pik.cells)[j * 5 + i]? = (vs[j].cells)[i]? := by
 induction vs with
 | nil => intro j h; cases h
 | cons v vs ih =>
  intro j h i hi
  rw [List.flatMap_cons]
  cases j with
  | zero =>
   have : i < v.cells.length := hi
   rw [Nat.zero_mul, Nat.zero_add, List.getElem?_append_left this]; rfl
  | succ j =>
   have hl : v.cells.length = 5 := rfl
   rw [List.getElem?_append_right (by rw [hl]; omega), hl, show (j + 1) * 5 + i - 5 = j * 5 + i by omega, ih j (by simpa using h) i hi]
   rfl
theorem piks_len (vs : List Pik) : (vs.flatMap Pik.cells).length = vs.length * 5 := by
 induction vs with
 | nil => rfl
 | cons v vs ih => rw [List.flatMap_cons, List.length_append, ih, List.length_cons]; simp [Pik.cells]; omega
theorem Piks.cases {w : World} {v : Value} {vs : List Pik} (h : Piks w v vs) :
  vs.length ≤ maxLen ∧ ((∃ a cap, v = .slice a 0 cap ∧ vs = []) ∨
  ∃ b off cap, v = .slice (some ⟨b, off, none⟩) vs.length cap ∧ 0 < vs.length ∧ b < w.heap.size ∧ ∀ j (h : j < vs.length), w.cell? ⟨b, off + j * 5, none⟩ = some (.string vs[j].name) ∧
   w.cell? ⟨b, off + j * 5 + 1, none⟩ = some (.int .i64 vs[j].v.a) ∧ w.cell? ⟨b, off + j * 5 + 2, none⟩ = some (.int .i64 vs[j].v.b) ∧ w.cell? ⟨b, off + j * 5 + 3, none⟩ = some (.int .i64 vs[j].v.c) ∧
   w.cell? ⟨b, off + j * 5 + 4, none⟩ = some (.string vs[j].v.p)) := by
 obtain ⟨h1, h2, ⟨a, cap, h3, h4, _⟩ | ⟨b, off, cap, h3, h4, h5, h6⟩⟩ := h
 ·exact ⟨h2, .inl ⟨a, cap, h3, List.eq_nil_of_length_eq_zero h4⟩⟩
 ·refine ⟨h2, .inr ⟨b, off, cap, h3, h4, h5, fun j hj => ?_⟩⟩
  have g := fun i hi => (h6 (j * 5 + i) (by omega)).trans (piks_get vs j hj i hi)
  refine ⟨?_, ?_, ?_, ?_, ?_⟩
  ·have := g 0 (by omega); simpa [Pik.cells] using this
  ·have := g 1 (by omega); simpa [Pik.cells, Nat.add_assoc] using this
  ·have := g 2 (by omega); simpa [Pik.cells, Nat.add_assoc] using this
  ·have := g 3 (by omega); simpa [Pik.cells, Nat.add_assoc] using this
  ·have := g 4 (by omega); simpa [Pik.cells, Nat.add_assoc] using this
theorem Piks.of_owns {w : World} {base : Nat} {e : TypeId} {v : Value} {n : Nat} {ps : List Pik} (h : w.ownsRow base e 5 v n (ps.flatMap Pik.cells)) : Piks w v ps := by
 have h1 : n = ps.length := by have := h.1; rw [piks_len] at this; omega
 subst h1; exact Row.of_owns h
/-! may picks be a lock? -/
def Pik.nm (p : Pik) : List UInt8 := p.name.data.toList
def Pik.ok (p : Pik) : Bool := nameOk p.nm && p.v.ok
/-- a pick's name is above the one ahead of it -/
def risesAt (l : List Pik) (k : Nat) : Bool := match l[k - 1]?, l[k]? with
 | some a, some b => decide (k = 0) || Op.bytesLess a.nm b.nm
 | _, _ => true
def mayTo (l : List Pik) : Nat → Bool
 | 0 => true
 | k + 1 => mayTo l k && ((l[k]?.map Pik.ok).getD true && risesAt l k)
def mayB (l : List Pik) : Bool := mayTo l l.length && decide (l.length ≤ 40)
theorem mayTo_le {l : List Pik} : ∀ {n k : Nat}, mayTo l n = true → k ≤ n → mayTo l k = true
 | 0, k, h, hk => by
  have : k = 0 := by omega
  subst this; exact h
 | n + 1, k, h, hk => by
  rw [mayTo, Bool.and_eq_true] at h
  by_cases e : k = n + 1
  ·subst e; rw [mayTo, h.1, h.2]; rfl
  ·exact mayTo_le h.1 (by omega)
theorem may_ok {l : List Pik} (h : mayTo l l.length = true) {k : Nat} (hk : k < l.length) : l[k].ok = true := by
 have := mayTo_le h (show k + 1 ≤ l.length from hk)
 rw [mayTo, Bool.and_eq_true, Bool.and_eq_true, List.getElem?_eq_getElem hk] at this
 exact this.2.1
/-! how a lock is written -/
def Pik.line (p : Pik) : List UInt8 := p.nm ++ 32 :: p.v.show
def headL : List UInt8 := [108, 111, 99, 107, 32, 49, 10]
def lineN (p : Pik) : List UInt8 := p.line ++ [10]
def bodyL (l : List Pik) : List UInt8 := headL ++ (l.map lineN).flatten
def hexC (d : Nat) : UInt8 := if d < 10 then UInt8.ofNat (48 + d) else UInt8.ofNat (87 + d)
def hexK : Nat → Nat → List UInt8
 | 0, _ => []
 | k + 1, n => hexK k (n / 16) ++ [hexC (n % 16)]
def sumL (b : List UInt8) : List UInt8 := [115, 117, 109, 32] ++ hexK 8 (Crc.sum b) ++ [10]
def lockL (l : List Pik) : List UInt8 := bodyL l ++ sumL (bodyL l)
/-- the lock that some bytes are, or the error -/
def LockIs (s : List UInt8) (l : List Pik) (e : Int) : Prop := (e = 0 ∧ mayB l = true ∧ lockL l = s) ∨ (e = 370 ∧ l = [] ∧ ∀ k : List Pik, mayB k = true → lockL k ≠ s)
theorem hexC_all : ∀ d : Fin 16, hexC d.val ≠ 10 ∧ hexC d.val ≠ 32 ∧ hexC d.val ≠ 46 ∧ (hexC d.val).toNat < 128 := by decide
theorem hexC_ne {d : Nat} (h : d < 16) : hexC d ≠ 10 ∧ hexC d ≠ 32 ∧ hexC d ≠ 46 ∧ (hexC d).toNat < 128 := hexC_all ⟨d, h⟩
theorem hexK_mem : ∀ (k n : Nat), ∀ c ∈ hexK k n, c ≠ 10 ∧ c ≠ 32 ∧ c ≠ 46 ∧ c.toNat < 128
 | 0, _, c, h => by cases h
 | k + 1, n, c, h => by
  rw [hexK, List.mem_append] at h
  rcases h with h | h
  ·exact hexK_mem k (n / 16) c h
  ·simp only [List.mem_singleton] at h
   subst h
   exact hexC_ne (Nat.mod_lt _ (by decide))
end Go

namespace Go
/-- lines, each with its end -/
def flatN (ts : List (List UInt8)) : List UInt8 := (ts.map fun t => t ++ [10]).flatten
theorem flatN_cons (t : List UInt8) (ts : List (List UInt8)) : flatN (t :: ts) = t ++ 10 :: flatN ts := by simp [flatN]
theorem flatN_app (a b : List (List UInt8)) : flatN (a ++ b) = flatN a ++ flatN b := by simp [flatN]
theorem sep_lines : ∀ (ts : List (List UInt8)) (r : List UInt8), (∀ t ∈ ts, ∀ c ∈ t, c ≠ 10) → sepAt 10 (flatN ts ++ r) = ts ++ sepAt 10 r
 | [], r, _ => rfl
 | t :: ts, r, h => by
  rw [flatN_cons, List.append_assoc, List.cons_append, sepAt_app _ (h t List.mem_cons_self), sep_lines ts r (fun x hx => h x (List.mem_cons_of_mem _ hx))]
  rfl
theorem sepAt_nil (c : UInt8) : sepAt c [] = [[]] := sepAt_none (fun x hx => by cases hx)
theorem sep_lines0 (ts : List (List UInt8)) (h : ∀ t ∈ ts, ∀ c ∈ t, c ≠ 10) : sepAt 10 (flatN ts) = ts ++ [[]] := by
 have := sep_lines ts [] h
 rwa [List.append_nil, sepAt_nil] at this
theorem flatN_inj {a b : List (List UInt8)} (ha : ∀ t ∈ a, ∀ c ∈ t, c ≠ 10) (hb : ∀ t ∈ b, ∀ c ∈ t, c ≠ 10) (h : flatN a = flatN b) : a = b := by
 have h1 := sep_lines0 a ha
 rw [h, sep_lines0 b hb] at h1
 exact (List.append_inj' h1 rfl).1.symm
theorem part_at {c : UInt8} : ∀ {n m s t : List UInt8}, (∀ x ∈ n, x ≠ c) → (∀ x ∈ m, x ≠ c) → n ++ c :: s = m ++ c :: t → n = m ∧ s = t
 | [], [], s, t, _, _, h => ⟨rfl, by injection h⟩
 | [], b :: m, s, t, _, hm, h => by injection h with h; exact absurd h.symm (hm b List.mem_cons_self)
 | a :: n, [], s, t, hn, _, h => by injection h with h; exact absurd h (hn a List.mem_cons_self)
 | a :: n, b :: m, s, t, hn, hm, h => by
  injection h with h1 h2
  obtain ⟨e1, e2⟩ := part_at (fun x hx => hn x (List.mem_cons_of_mem _ hx)) (fun x hx => hm x (List.mem_cons_of_mem _ hx)) h2
  exact ⟨by rw [h1, e1], e2⟩
/-! the lines of a lock -/
def sumLine (b : List UInt8) : List UInt8 := [115, 117, 109, 32] ++ hexK 8 (Crc.sum b)
def lockLines (l : List Pik) : List (List UInt8) := [108, 111, 99, 107, 32, 49] :: (l.map Pik.line ++ [sumLine (bodyL l)])
theorem lock_flat (l : List Pik) : lockL l = flatN (lockLines l) := by
 unfold lockLines
 rw [flatN_cons, flatN_app]
 have h1 : flatN (l.map Pik.line) = (l.map lineN).flatten := by unfold flatN; rw [List.map_map]; rfl
 rw [h1]
 unfold lockL bodyL headL
 simp [flatN, sumLine, sumL]
theorem pik_parts {p : Pik} (h : p.ok = true) : nameOk p.nm = true ∧ p.v.ok = true := by unfold Pik.ok at h; simpa using h
theorem show_gt {v : V4} (h : v.ok = true) : ∀ c ∈ v.show, 44 < c.toNat := ver_gt (⟨h, rfl⟩ : v.IsShow v.show)
theorem line_no {p : Pik} (h : p.ok = true) : ∀ c ∈ p.line, c ≠ 10 := by
 obtain ⟨h1, h2⟩ := pik_parts h
 intro c hc
 unfold Pik.line at hc
 rw [List.mem_append, List.mem_cons] at hc
 rcases hc with hc | rfl | hc
 ·exact name_no h1 10 (by decide) c hc
 ·decide
 ·have := show_gt h2 c hc
  rintro rfl
  exact absurd this (by decide)
theorem may_all {l : List Pik} (h : mayB l = true) : (∀ p ∈ l, p.ok = true) ∧ l.length ≤ 40 := by
 unfold mayB at h
 rw [Bool.and_eq_true, decide_eq_true_eq] at h
 refine ⟨fun p hp => ?_, h.2⟩
 obtain ⟨k, hk, rfl⟩ := List.getElem_of_mem hp
 exact may_ok h.1 hk
theorem lock_no {l : List Pik} (h : mayB l = true) : ∀ t ∈ lockLines l, ∀ c ∈ t, c ≠ 10 := by
 intro t ht
 unfold lockLines at ht
 rw [List.mem_cons, List.mem_append, List.mem_map, List.mem_singleton] at ht
 rcases ht with rfl | ⟨p, hp, rfl⟩ | rfl
 ·decide
 ·exact line_no ((may_all h).1 p hp)
 ·intro c hc
  unfold sumLine at hc
  rw [List.mem_append] at hc
  rcases hc with hc | hc
  ·revert c; decide
  ·exact (hexK_mem _ _ c hc).1
theorem line_inj {p q : Pik} (hp : p.ok = true) (hq : q.ok = true) (h : p.line = q.line) : p = q := by
 obtain ⟨h1, h2⟩ := pik_parts hp
 obtain ⟨g1, g2⟩ := pik_parts hq
 obtain ⟨e1, e2⟩ := part_at (name_no h1 32 (by decide)) (name_no g1 32 (by decide)) h
 have e3 := V4.isShow_inj (⟨h2, e2⟩ : p.v.IsShow q.v.show) ⟨g2, rfl⟩
 obtain ⟨n, v⟩ := p
 obtain ⟨m, u⟩ := q
 simp only at e3
 subst e3
 have : n = m := ByteArray.ext (Array.toList_inj.1 e1)
 subst this; rfl
theorem lines_inj : ∀ {a b : List Pik}, (∀ p ∈ a, p.ok = true) → (∀ p ∈ b, p.ok = true) → a.map Pik.line = b.map Pik.line → a = b
 | [], [], _, _, _ => rfl
 | [], q :: b, _, _, h => by cases h
 | p :: a, [], _, _, h => by cases h
 | p :: a, q :: b, ha, hb, h => by
  rw [List.map_cons, List.map_cons] at h
  injection h with h1 h2
  rw [line_inj (ha p List.mem_cons_self) (hb q List.mem_cons_self) h1, lines_inj (fun x hx => ha x (List.mem_cons_of_mem _ hx)) (fun x hx => hb x (List.mem_cons_of_mem _ hx)) h2]
theorem lock_inj {k l : List Pik} (hk : mayB k = true) (hl : mayB l = true) (h : lockL k = lockL l) : k = l := by
 rw [lock_flat, lock_flat] at h
 have h1 := flatN_inj (lock_no hk) (lock_no hl) h
 unfold lockLines at h1
 injection h1 with _ h1
 exact lines_inj (may_all hk).1 (may_all hl).1 (List.append_inj' h1 rfl).1
theorem LockIs.uniq {s : List UInt8} {l l' : List Pik} {e e' : Int} (h : LockIs s l e) (h' : LockIs s l' e') : l = l' ∧ e = e' := by
 rcases h with ⟨rfl, h1, h2⟩ | ⟨rfl, rfl, h⟩ <;> rcases h' with ⟨rfl, g1, g2⟩ | ⟨rfl, rfl, g⟩
 ·exact ⟨lock_inj h1 g1 (h2.trans g2.symm), rfl⟩
 ·exact absurd h2 (g _ h1)
 ·exact absurd g2 (h _ g1)
 ·exact ⟨rfl, rfl⟩
end Go

namespace Go
open Go.Lib
theorem bLess : ∀ (x y : List UInt8), Op.bytesLess x y = decide (x < y)
 | [], [] => by simp [Op.bytesLess]
 | [], b :: y => by simp [Op.bytesLess]
 | a :: x, [] => by simp [Op.bytesLess]
 | a :: x, b :: y => by
  rw [Op.bytesLess, bLess x y]
  by_cases h1 : a < b
  ·simp [h1, List.cons_lt_cons_iff]
  ·by_cases h2 : a = b
   ·subst h2; simp
   ·simp [h1, h2, List.cons_lt_cons_iff]
end Go

namespace Go
open Go.RowKit
/-- an offer, with its needs and the slice that holds them -/
structure DOff where
 v : V4
 y : Bool
 ns : List (Want × Value)
 na : Option Addr
 nc : Nat
def DOff.nv (o : DOff) : Value := .slice o.na o.ns.length o.nc
def DOff.cells (o : DOff) : List Value := [.int .i64 o.v.a, .int .i64 o.v.b, .int .i64 o.v.c, .string o.v.p, .bool o.y, o.nv]
def DOff.val (o : DOff) : Value := .agg #[.int .i64 o.v.a, .int .i64 o.v.b, .int .i64 o.v.c, .string o.v.p, .bool o.y, o.nv]
def DOff.ok (w : World) (o : DOff) : Prop := Wants w o.nv o.ns ∧ ∃ a cap, o.nv = .slice a o.ns.length cap
theorem DOff.ok.below {w w' : World} {o : DOff} (h : o.ok w) {B : Nat} (hb : Below B w w') (hB : w.heap.size ≤ B) : o.ok w' := ⟨h.1.below hb hB, h.2⟩
/-- a row of offers, their cells alone -/
def ORow (w : World) (v : Value) (os : List DOff) : Prop := Row w 6 v os.length (os.flatMap DOff.cells)
def Offs (w : World) (v : Value) (os : List DOff) : Prop := ORow w v os ∧ ∀ o ∈ os, o.ok w
theorem ORow.below {w w' : World} {v : Value} {os : List DOff} (h : ORow w v os) {B : Nat} (hb : Below B w w') (hB : w.heap.size ≤ B) : ORow w' v os := Row.below h hb hB
theorem Offs.below {w w' : World} {v : Value} {os : List DOff} (h : Offs w v os) {B : Nat} (hb : Below B w w') (hB : w.heap.size ≤ B) : Offs w' v os := ⟨h.1.below hb hB, fun o ho => (h.2 o ho).below hb hB⟩
theorem offs_len (os : List DOff) : (os.flatMap DOff.cells).length = os.length * 6 := by
 induction os with
 | nil => rfl
 | cons o os ih => rw [List.flatMap_cons, List.length_append, ih, List.length_cons]; simp [DOff.cells]; omega
theorem offs_get (os : List DOff) : ∀ (j : Nat) (h : j < os.length) (i : Nat), i < 6 → (os.flatMap DOff.cells)[j * 6 + i]? = (os[j].cells)[i]? := by
 induction os with
 | nil => intro j h; cases h
 | cons o os ih =>
  intro j h i hi
  rw [List.flatMap_cons]
  cases j with
  | zero =>
   have : i < o.cells.length := hi
   rw [Nat.zero_mul, Nat.zero_add, List.getElem?_append_left this]; rfl
  | succ j =>
   have hl : o.cells.length = 6 := rfl
   rw [List.getElem?_append_right (by rw [hl]; omega), hl, show (j + 1) * 6 + i - 6 = j * 6 + i by omega, ih j (by simpa using h) i hi]
   rfl
theorem ORow.len {w : World} {v : Value} {os : List DOff} (h : ORow w v os) : os.length ≤ maxLen ∧ ∃ a cap, v = .slice a os.length cap := by
 obtain ⟨_, h2, ⟨a, cap, h3, h4, _⟩ | ⟨b, off, cap, h3, _⟩⟩ := h
 ·exact ⟨h2, a, cap, by rw [h3, h4]⟩
 ·exact ⟨h2, _, cap, h3⟩
/-- the cells of one, at a later world -/
theorem ORow.at' {w w' : World} {a : Option Addr} {cap : Nat} {os : List DOff} (h : ORow w (.slice a os.length cap) os) (hb : Below w.heap.size w w') {k : Nat} (hk : k < os.length) :
  ∃ b off, a = some ⟨b, off, none⟩ ∧ b < w.heap.size ∧ w'.cell? ⟨b, off + k * 6, none⟩ = some (.int .i64 os[k].v.a) ∧ w'.cell? ⟨b, off + k * 6 + 1, none⟩ = some (.int .i64 os[k].v.b) ∧ w'.cell? ⟨b, off + k * 6 + 2, none⟩ = some (.int .i64 os[k].v.c) ∧
   w'.cell? ⟨b, off + k * 6 + 3, none⟩ = some (.string os[k].v.p) ∧ w'.cell? ⟨b, off + k * 6 + 4, none⟩ = some (.bool os[k].y) ∧ w'.cell? ⟨b, off + k * 6 + 5, none⟩ = some os[k].nv := by
 obtain ⟨h1, h2, ⟨a', cap', h3, h4, _⟩ | ⟨b, off, cap', h3, h4, h5, h6⟩⟩ := h
 ·omega
 ·injection h3 with h3 _ _
  have g : ∀ i, i < 6 → w'.cell? ⟨b, off + k * 6 + i, none⟩ = (os[k].cells)[i]? := fun i hi => by
   rw [hb.cell (p := ⟨b, off + k * 6 + i, none⟩) h5, Nat.add_assoc, h6 (k * 6 + i) (by omega), offs_get os k hk i hi]
  exact ⟨b, off, h3, h5, g 0 (by decide), g 1 (by decide), g 2 (by decide), g 3 (by decide), g 4 (by decide), g 5 (by decide)⟩
theorem ORow.of_owns {w : World} {base : Nat} {e : TypeId} {v : Value} {n : Nat} {os : List DOff} (h : w.ownsRow base e 6 v n (os.flatMap DOff.cells)) : ORow w v os := by
 have h1 : n = os.length := by have := h.1; rw [offs_len] at this; omega
 subst h1; exact Row.of_owns h
/-- a package -/
structure DPack where
 name : ByteArray
 os : List DOff
 oa : Option Addr
 oc : Nat
def DPack.ov (p : DPack) : Value := .slice p.oa p.os.length p.oc
def DPack.cells (p : DPack) : List Value := [.string p.name, p.ov]
def DPack.ok (w : World) (p : DPack) : Prop := Offs w p.ov p.os ∧ ∃ a cap, p.ov = .slice a p.os.length cap
def Packs (w : World) (v : Value) (ps : List DPack) : Prop := Row w 2 v ps.length (ps.flatMap DPack.cells) ∧ ∀ p ∈ ps, p.ok w
theorem DPack.ok.below {w w' : World} {p : DPack} (h : p.ok w) {B : Nat} (hb : Below B w w') (hB : w.heap.size ≤ B) : p.ok w' := ⟨h.1.below hb hB, h.2⟩
theorem Packs.below {w w' : World} {v : Value} {ps : List DPack} (h : Packs w v ps) {B : Nat} (hb : Below B w w') (hB : w.heap.size ≤ B) : Packs w' v ps := ⟨Row.below h.1 hb hB, fun p hp => (h.2 p hp).below hb hB⟩
theorem packs_get (ps : List DPack) : ∀ (j : Nat) (h : j < ps.length) (i : Nat), i < 2 → (ps.flatMap DPack.cells)[j * 2 + i]? = (ps[j].cells)[i]? := by
 induction ps with
 | nil => intro j h; cases h
 | cons o os ih =>
  intro j h i hi
  rw [List.flatMap_cons]
  cases j with
  | zero =>
   have : i < o.cells.length := hi
   rw [Nat.zero_mul, Nat.zero_add, List.getElem?_append_left this]; rfl
  | succ j =>
   have hl : o.cells.length = 2 := rfl
   rw [List.getElem?_append_right (by rw [hl]; omega), hl, show (j + 1) * 2 + i - 2 = j * 2 + i by omega, ih j (by simpa using h) i hi]
   rfl
theorem Packs.len {w : World} {v : Value} {ps : List DPack} (h : Packs w v ps) : ps.length ≤ maxLen ∧ ∃ a cap, v = .slice a ps.length cap := by
 obtain ⟨⟨_, h2, ⟨a, cap, h3, h4, _⟩ | ⟨b, off, cap, h3, _⟩⟩, _⟩ := h
 ·exact ⟨h2, a, cap, by rw [h3, h4]⟩
 ·exact ⟨h2, _, cap, h3⟩
theorem Packs.at' {w w' : World} {a : Option Addr} {cap : Nat} {ps : List DPack} (h : Packs w (.slice a ps.length cap) ps) (hb : Below w.heap.size w w') {k : Nat} (hk : k < ps.length) :
  ∃ b off, a = some ⟨b, off, none⟩ ∧ b < w.heap.size ∧ w'.cell? ⟨b, off + k * 2, none⟩ = some (.string ps[k].name) ∧ w'.cell? ⟨b, off + k * 2 + 1, none⟩ = some ps[k].ov := by
 obtain ⟨⟨h1, h2, ⟨a', cap', h3, h4, _⟩ | ⟨b, off, cap', h3, h4, h5, h6⟩⟩, _⟩ := h
 ·omega
 ·injection h3 with h3 _ _
  have g : ∀ i, i < 2 → w'.cell? ⟨b, off + k * 2 + i, none⟩ = (ps[k].cells)[i]? := fun i hi => by
   rw [hb.cell (p := ⟨b, off + k * 2 + i, none⟩) h5, Nat.add_assoc, h6 (k * 2 + i) (by omega), packs_get ps k hk i hi]
  exact ⟨b, off, h3, h5, g 0 (by decide), g 1 (by decide)⟩
/-- the package of a name -/
def findP (ps : List DPack) (nm : ByteArray) : DPack := (ps.find? fun p => decide (p.name = nm)).getD ⟨nm, [], none, 0⟩
/-! what is locked; the order of choices -/
def V4.same (x y : V4) : Bool := decide (x.a = y.a ∧ x.b = y.b ∧ x.c = y.c ∧ x.p = y.p)
theorem V4.same_eq (x y : V4) : V4.same x y = true ↔ x = y := by
 unfold V4.same
 rw [decide_eq_true_eq]
 obtain ⟨a, b, c, p⟩ := x
 obtain ⟨a', b', c', p'⟩ := y
 simp
def lockB (nm : ByteArray) (v : V4) (p : Pik) : Bool := decide (p.name = nm ∧ p.v.a = v.a ∧ p.v.b = v.b ∧ p.v.c = v.c ∧ p.v.p = v.p)
def lockedB (lock : List Pik) (nm : ByteArray) (v : V4) : Bool := lock.any (lockB nm v)
def lockN (lock : List Pik) (nm : ByteArray) (x y : V4) : Int := if lockedB lock nm x = lockedB lock nm y then 0 else if lockedB lock nm x = true then -1 else 1
def cmpO (lock : List Pik) (nm : ByteArray) (x y : DOff) : Int := or2 (lockN lock nm x.v y.v) (V4.cmp y.v x.v)
theorem good_lockN (lock : List Pik) (nm : ByteArray) : OrdG (fun x y : DOff => lockN lock nm x.v y.v) := by
 refine ⟨fun x y => ?_, fun x y z h1 h2 => ?_⟩
 ·show lockN lock nm x.v y.v = - lockN lock nm y.v x.v
  unfold lockN
  generalize lockedB lock nm x.v = p
  generalize lockedB lock nm y.v = q
  cases p <;> cases q <;> decide
 ·have h1 : lockN lock nm x.v y.v ≤ 0 := h1
  have h2 : lockN lock nm y.v z.v ≤ 0 := h2
  show lockN lock nm x.v z.v ≤ 0
  unfold lockN at h1 h2 ⊢
  revert h1 h2
  generalize lockedB lock nm x.v = p
  generalize lockedB lock nm y.v = q
  generalize lockedB lock nm z.v = r
  cases p <;> cases q <;> cases r <;> decide
theorem good_flip {α : Type} {f : α → α → Int} (h : OrdG f) : OrdG (fun x y => f y x) :=
 ⟨fun x y => h.1 y x, fun x y z h1 h2 => h.2 z y x h2 h1⟩
theorem good_cmpO (lock : List Pik) (nm : ByteArray) : OrdG (cmpO lock nm) :=
 (good_lockN lock nm).lex ((good_flip good_v4).comap fun x : DOff => x.v)
/-! what may be chosen -/
def needOk (nm : ByteArray) (v : V4) (x : Want × Value) : Bool := decide (x.1.name ≠ nm.data.toList) || meetsR v x.1.bs
def fitO (lock : List Pik) (nm : ByteArray) (needs : List (Want × Value)) (o : DOff) : Bool := o.v.ok && (!o.y || lockedB lock nm o.v) && needs.all (needOk nm o.v)
def thereB (out : List DOff) (o : DOff) : Bool := out.any fun x => V4.same x.v o.v
def selStep (lock : List Pik) (nm : ByteArray) (needs : List (Want × Value)) (out : List DOff) (o : DOff) : List DOff := if thereB out o = false ∧ fitO lock nm needs o = true then out ++ [o] else out
def selL (lock : List Pik) (nm : ByteArray) (needs : List (Want × Value)) (os : List DOff) : List DOff := os.foldl (selStep lock nm needs) []
/-- the choices: those that may be, in order -/
def ChoiceIs (lock : List Pik) (nm : ByteArray) (needs : List (Want × Value)) (os out : List DOff) : Prop :=
 out.Perm (selL lock nm needs os) ∧ out.Pairwise fun x y => cmpO lock nm x y < 0
theorem pairwise_uniq {α : Type} {r : α → α → Prop} (hi : ∀ x, ¬ r x x) (ht : ∀ x y z, r x y → r y z → r x z) : ∀ {a b : List α}, a.Pairwise r → b.Pairwise r → (∀ x, x ∈ a ↔ x ∈ b) → a = b
 | [], [], _, _, _ => rfl
 | [], y :: b, _, _, h => absurd ((h y).2 List.mem_cons_self) (by simp)
 | x :: a, [], _, _, h => absurd ((h x).1 List.mem_cons_self) (by simp)
 | x :: a, y :: b, ha, hb, h => by
  obtain ⟨a1, a2⟩ := List.pairwise_cons.1 ha
  obtain ⟨b1, b2⟩ := List.pairwise_cons.1 hb
  have e : x = y := by
   rcases List.mem_cons.1 ((h x).1 List.mem_cons_self) with e | hx
   ·exact e
   ·rcases List.mem_cons.1 ((h y).2 List.mem_cons_self) with e | hy
    ·exact e.symm
    ·exact absurd (ht _ _ _ (b1 x hx) (a1 y hy)) (hi y)
  subst e
  rw [pairwise_uniq hi ht a2 b2 (fun z => ?_)]
  constructor
  ·intro hz
   rcases List.mem_cons.1 ((h z).1 (List.mem_cons_of_mem _ hz)) with e | hz'
   ·subst e; exact absurd (a1 z hz) (hi z)
   ·exact hz'
  ·intro hz
   rcases List.mem_cons.1 ((h z).2 (List.mem_cons_of_mem _ hz)) with e | hz'
   ·subst e; exact absurd (b1 z hz) (hi z)
   ·exact hz'
theorem ChoiceIs.uniq {lock : List Pik} {nm : ByteArray} {needs : List (Want × Value)} {os a b : List DOff} (h : ChoiceIs lock nm needs os a) (h' : ChoiceIs lock nm needs os b) : a = b := by
 have ho := good_cmpO lock nm
 refine pairwise_uniq (fun x hx => ?_) (fun x y z p q => ?_) h.2 h'.2 (fun x => ?_)
 ·have := ho.self x; omega
 ·exact ho.lt_le p (by omega)
 ·rw [h.1.mem_iff, h'.1.mem_iff]
/-- those that are selected may be, and no two have one version -/
theorem sel_inv (lock : List Pik) (nm : ByteArray) (needs : List (Want × Value)) : ∀ (os out : List DOff), ((∀ o ∈ out, fitO lock nm needs o = true) ∧ out.Pairwise fun x y => x.v ≠ y.v) →
  ((∀ o ∈ os.foldl (selStep lock nm needs) out, fitO lock nm needs o = true) ∧ (os.foldl (selStep lock nm needs) out).Pairwise fun x y => x.v ≠ y.v)
 | [], _, h => h
 | o :: os, out, h => by
  rw [List.foldl_cons]
  refine sel_inv lock nm needs os _ ?_
  unfold selStep
  split
  ·rename_i hc
   refine ⟨fun x hx => ?_, List.pairwise_append.2 ⟨h.2, by simp, fun x hx y hy => ?_⟩⟩
   ·rcases List.mem_append.1 hx with hx | hx
    ·exact h.1 x hx
    ·simp at hx; subst hx; exact hc.2
   ·simp at hy; subst hy
    intro e
    have : thereB out y = true := List.any_eq_true.2 ⟨x, hx, (V4.same_eq _ _).2 e⟩
    rw [hc.1] at this; cases this
  ·exact h
theorem sel_ok {lock : List Pik} {nm : ByteArray} {needs : List (Want × Value)} {os : List DOff} : (∀ o ∈ selL lock nm needs os, fitO lock nm needs o = true) ∧ (selL lock nm needs os).Pairwise fun x y => x.v ≠ y.v :=
 sel_inv lock nm needs os [] ⟨(fun o h => by cases h), List.Pairwise.nil⟩
theorem fit_ok {lock : List Pik} {nm : ByteArray} {needs : List (Want × Value)} {o : DOff} (h : fitO lock nm needs o = true) : o.v.ok = true := by
 unfold fitO at h
 rw [Bool.and_eq_true, Bool.and_eq_true] at h
 exact h.1.1
/-- unlike versions that may be are not alike in order -/
theorem cmpO_ne {lock : List Pik} {nm : ByteArray} {x y : DOff} (hx : x.v.ok = true) (hy : y.v.ok = true) (h : x.v ≠ y.v) : cmpO lock nm x y ≠ 0 := by
 intro h0
 unfold cmpO or2 at h0
 split at h0
 ·have := cmpV_zero (show verOk y.v.a y.v.b y.v.c y.v.p.data.toList = true from hy) (show verOk x.v.a x.v.b x.v.c x.v.p.data.toList = true from hx) h0
  apply h
  rw [← V4.same_eq]
  unfold V4.same
  obtain ⟨h1, h2, h3, h4⟩ := this
  exact decide_eq_true ⟨h1.symm, h2.symm, h3.symm, ByteArray.ext (Array.toList_inj.1 h4.symm)⟩
 ·rename_i h; exact h h0
end Go
