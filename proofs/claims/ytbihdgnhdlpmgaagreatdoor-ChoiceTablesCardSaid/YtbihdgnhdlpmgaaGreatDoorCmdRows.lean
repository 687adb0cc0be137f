/- Needs and picks in memory: rows; what a loop has gathered of both. -/
import Derived.Test.YtbihdgnhdlpmgaaGreatDoorCmdMath4
import Derived.Test.YtbihdgnhdlpmgaaGreatDoorCells
import Derived.Maps.AppendAt
namespace Go
open Go.RowKit
/-- two slices in different blocks -/
def ApartV (v u : Value) : Prop := ∀ g, v.ownBlock = some g → u.ownBlock ≠ some g
theorem ApartV.symm {v u : Value} (h : ApartV v u) : ApartV u v := fun g h1 h2 => h g h2 h1
theorem ApartV.nil (v : Value) : ApartV (.slice none 0 0) v := fun g h => by cases h
theorem Row.grew {W w' : World} {size n : Nat} {v : Value} {xs : List Value} (h : Row W size v n xs) {u : Option Nat} (ha : 0 < n → ∀ g, v.ownBlock = some g → u ≠ some g) (hg : W.grownBy w' u) : Row w' size v n xs := by
  obtain ⟨h1, h2, h3 | ⟨b, off, cap, h3, h4, h5, h6⟩⟩ := h
  · exact ⟨h1, h2, .inl h3⟩
  · have hr : u ≠ some b := by subst h3; exact ha h4 b rfl
    refine ⟨h1, h2, .inr ⟨b, off, cap, h3, h4, Nat.lt_of_lt_of_le h5 hg.size, fun j hj => ?_⟩⟩
    rw [World.cell?_of_block (w := W) (a := ⟨b, off + j, none⟩) (hg.block b h5 (fun e => hr e.symm))]
    exact h6 j hj
theorem fresh_apart {w : World} {B : Nat} {e : TypeId} {size n : Nat} {v u : Value} {xs : List Value} (hf : FreshV w.heap.size u) (h : w.ownsRow B e size v n xs) : ApartV u v := by
  intro g h1 h2
  have h3 := (h.lt g h2).2
  cases u with
  | slice a m c =>
    cases a with
    | none => cases h1
    | some a =>
      have := hf a m c rfl
      have h4 : a.block = g := by injection h1
      omega
  | _ => cases h1
def WCells (x : Want × Value) : List Value := [.string (S x.1.name), x.2]
def Pck.cells (p : Pck) : List Value := [.string (S p.name), .int .i64 p.v.a, .int .i64 p.v.b, .int .i64 p.v.c, .string p.v.p]
/-- the range of a need lies there -/
def RvOk (w : World) (x : Want × Value) : Prop := Bnds w x.2 x.1.bs ∧ ∃ a cap, x.2 = .slice a x.1.bs.length cap
def Wants (w : World) (v : Value) (xs : List (Want × Value)) : Prop := Row w 2 v xs.length (xs.flatMap WCells) ∧ ∀ x ∈ xs, RvOk w x
def Pcks (w : World) (v : Value) (ps : List Pck) : Prop := Row w 5 v ps.length (ps.flatMap Pck.cells)
theorem RvOk.below {w w' : World} {x : Want × Value} (h : RvOk w x) {B : Nat} (hb : Below B w w') (hB : w.heap.size ≤ B) : RvOk w' x := ⟨h.1.below hb hB, h.2⟩
theorem Wants.below {w w' : World} {v : Value} {xs : List (Want × Value)} (h : Wants w v xs) {B : Nat} (hb : Below B w w') (hB : w.heap.size ≤ B) : Wants w' v xs := ⟨Row.below h.1 hb hB, fun x hx => (h.2 x hx).below hb hB⟩
theorem Pcks.below {w w' : World} {v : Value} {xs : List Pck} (h : Pcks w v xs) {B : Nat} (hb : Below B w w') (hB : w.heap.size ≤ B) : Pcks w' v xs := Row.below h hb hB
theorem Wants.nil (w : World) : Wants w (.slice none 0 0) [] := ⟨⟨rfl, Nat.zero_le _, .inl ⟨_, _, rfl, rfl, fun _ => rfl⟩⟩, fun x hx => by cases hx⟩
theorem Pcks.nil (w : World) : Pcks w (.slice none 0 0) [] := ⟨rfl, Nat.zero_le _, .inl ⟨_, _, rfl, rfl, fun _ => rfl⟩⟩
theorem wcells_len (xs : List (Want × Value)) : (xs.flatMap WCells).length = xs.length * 2 := by
  induction xs with
  | nil => rfl
  | cons x xs ih => rw [List.flatMap_cons, List.length_append, ih, List.length_cons]; simp [WCells]; omega
theorem pcells_len (xs : List Pck) : (xs.flatMap Pck.cells).length = xs.length * 5 := by
  induction xs with
  | nil => rfl
  | cons x xs ih => rw [List.flatMap_cons, List.length_append, ih, List.length_cons]; simp [Pck.cells]; omega
theorem RvOk.grew {W w' : World} {x : Want × Value} (h : RvOk W x) {u : Option Nat} (ha : x.1.bs ≠ [] → ∀ g, x.2.ownBlock = some g → u ≠ some g) (hg : W.grownBy w' u) : RvOk w' x :=
  ⟨Row.grew h.1 (fun hn => ha (List.length_pos_iff.1 hn)) hg, h.2⟩
theorem RvOk.lt {w : World} {x : Want × Value} (h : RvOk w x) (hn : x.1.bs ≠ []) {g : Nat} (hg : x.2.ownBlock = some g) : g < w.heap.size := by
  obtain ⟨_, _, ⟨a, cap, h3, h4, _⟩ | ⟨b, off, cap, h3, h4, h5, h6⟩⟩ := h.1
  · exact absurd (List.eq_nil_of_length_eq_zero h4) hn
  · rw [h3] at hg
    have h7 : b = g := by injection hg
    omega
/-- what a search's loop has gathered -/
structure Got (TN TP : TypeId) (B : Nat) (w : World) (vn vp : Value) (ns : List (Want × Value)) (ps : List Pck) : Prop where
  needs : w.ownsRow B TN 2 vn ns.length (ns.flatMap WCells)
  picks : w.ownsRow B TP 5 vp ps.length (ps.flatMap Pck.cells)
  ap : ApartV vn vp
  fn : ∃ a cap, vn = .slice a ns.length cap
  fp : ∃ a cap, vp = .slice a ps.length cap
  els : ∀ x ∈ ns, RvOk w x ∧ (x.1.bs ≠ [] → ApartV x.2 vn ∧ ApartV x.2 vp)
section
variable {TN TP : TypeId} {B : Nat} {w w' : World} {vn vp : Value} {ns : List (Want × Value)} {ps : List Pck}
theorem Got.start (TN TP : TypeId) (B : Nat) (w : World) : Got TN TP B w (.slice none 0 0) (.slice none 0 0) [] [] :=
  ⟨World.ownsRow_nil _ _ _ _, World.ownsRow_nil _ _ _ _, ApartV.nil _, ⟨_, _, rfl⟩, ⟨_, _, rfl⟩, fun x hx => by cases hx⟩
theorem Got.below (h : Got TN TP B w vn vp ns ps) (hb : Below w.heap.size w w') : Got TN TP B w' vn vp ns ps :=
  ⟨owns_below h.needs hb, owns_below h.picks hb, h.ap, h.fn, h.fp, fun x hx => ⟨(h.els x hx).1.below hb (Nat.le_refl _), (h.els x hx).2⟩⟩
theorem Got.alloc (h : Got TN TP B w vn vp ns ps) (o : Obj) : Got TN TP B (w.alloc o) vn vp ns ps := h.below ((Below.refl _ _).alloc (Nat.le_refl _) o)
theorem Got.wants (h : Got TN TP B w vn vp ns ps) : Wants w vn ns := ⟨Row.of_owns h.needs, fun x hx => (h.els x hx).1⟩
theorem Got.pcks (h : Got TN TP B w vn vp ns ps) : Pcks w vp ps := Row.of_owns h.picks
theorem own_kept {B : Nat} {e : TypeId} {size n : Nat} {u : Value} {xs : List Value} {row : Option Nat} (hu : w.ownsRow B e size u n xs) (h : ∀ g, u.ownBlock = some g → row ≠ some g) (hg : w.grownBy w' row) : w'.ownsRow B e size u n xs := by
  refine hu.kept hg ?_
  cases hb : u.ownBlock with
  | none => exact .inl rfl
  | some g => right; intro e; exact h g hb e.symm
theorem Got.need (h : Got TN TP B w vn vp ns ps) {x : Want} {rv vn' : Value} {m : Nat} (hx : RvOk w (x, rv)) (hap : x.bs ≠ [] → ApartV rv vn ∧ ApartV rv vp) (hown : w'.ownsRow B TN 2 vn' m (ns.flatMap WCells ++ [.string (S x.name), rv])) (hm : m = ns.length + 1)
    (hg : w.grownBy w' vn.ownBlock) (hbk : vn'.ownBlock = vn.ownBlock ∨ vn'.ownBlock = some w.heap.size) : Got TN TP B w' vn' vp (ns ++ [(x, rv)]) ps := by
  have hpa : ApartV vn' vp := by
    intro g h1 h2
    rcases hbk with hb | hb
    · exact h.ap g (by rw [← hb]; exact h1) h2
    · have := (h.picks.lt g h2).2
      rw [hb] at h1; injection h1 with h1; omega
  have hel : ∀ y : Want × Value, RvOk w y → (y.1.bs ≠ [] → ApartV y.2 vn ∧ ApartV y.2 vp) → RvOk w' y ∧ (y.1.bs ≠ [] → ApartV y.2 vn' ∧ ApartV y.2 vp) := by
    intro y h1 h2
    refine ⟨h1.grew (fun hn g hgy => fun e => (h2 hn).1 g hgy e) hg, fun hn => ⟨fun g hgy hgv => ?_, (h2 hn).2⟩⟩
    rcases hbk with hb | hb
    · exact (h2 hn).1 g hgy (by rw [← hb]; exact hgv)
    · have := h1.lt hn hgy
      rw [hb] at hgv; injection hgv with hgv; omega
  subst hm
  refine ⟨?_, own_kept h.picks (fun g h1 h2 => h.ap g h2 h1) hg, hpa, ?_, h.fp, ?_⟩
  · rw [List.flatMap_append, List.length_append]; exact hown
  · obtain ⟨g, cap, hv⟩ := Joins.ownsRow_form hown (by omega)
    exact ⟨_, cap, by rw [hv, List.length_append]; rfl⟩
  · intro y hy
    rcases List.mem_append.1 hy with hy | hy
    · exact hel y (h.els y hy).1 (h.els y hy).2
    · simp at hy; subst hy; exact hel _ hx hap
theorem Got.pick (h : Got TN TP B w vn vp ns ps) {x : Pck} {vp' : Value} {m : Nat} (hown : w'.ownsRow B TP 5 vp' m (ps.flatMap Pck.cells ++ x.cells)) (hm : m = ps.length + 1)
    (hg : w.grownBy w' vp.ownBlock) (hbk : vp'.ownBlock = vp.ownBlock ∨ vp'.ownBlock = some w.heap.size) : Got TN TP B w' vn vp' ns (ps ++ [x]) := by
  have hpa : ApartV vn vp' := by
    intro g h1 h2
    rcases hbk with hb | hb
    · exact h.ap g h1 (by rw [← hb]; exact h2)
    · have := (h.needs.lt g h1).2
      rw [hb] at h2; injection h2 with h2; omega
  subst hm
  refine ⟨own_kept h.needs (fun g h1 h2 => h.ap g h1 h2) hg, ?_, hpa, h.fn, ?_, ?_⟩
  · rw [List.flatMap_append, List.length_append]; simpa using hown
  · obtain ⟨g, cap, hv⟩ := Joins.ownsRow_form hown (by omega)
    exact ⟨_, cap, by rw [hv, List.length_append]; rfl⟩
  · intro y hy
    obtain ⟨h1, h2⟩ := h.els y hy
    refine ⟨h1.grew (fun hn g hgy e => (h2 hn).2 g hgy e) hg, fun hn => ⟨(h2 hn).1, fun g hgy hgv => ?_⟩⟩
    rcases hbk with hb | hb
    · exact (h2 hn).2 g hgy (by rw [← hb]; exact hgv)
    · have := h1.lt hn hgy
      rw [hb] at hgv; injection hgv with hgv; omega
end
/-- what reading the lines of a search comes to -/
def AsksAs (l : List UInt8) (w : World) (e : Ending) (w' : World) : Prop :=
  ∃ (vn vp : Value) (ns : List (Want × Value)) (ps : List Pck) (er : Int), e = .returned (.tuple #[vn, vp, .int .i64 er]) ∧ Wants w' vn ns ∧ Pcks w' vp ps ∧ (∃ a cap, vn = .slice a ns.length cap) ∧ (∃ a cap, vp = .slice a ps.length cap) ∧
    ((er = 0 ∧ asksL l = some (ns.map Prod.fst, ps)) ∨ (er = 270 ∧ asksL l = none ∧ ns = [] ∧ ps = [])) ∧ Below w.heap.size w w'
theorem asks_err {l : List UInt8} {w w' : World} (h : asksL l = none) (hb : Below w.heap.size w w') : AsksAs l w (.returned (.tuple #[.slice none 0 0, .slice none 0 0, .int .i64 270])) w' :=
  ⟨_, _, [], [], 270, rfl, Wants.nil _, Pcks.nil _, ⟨_, _, rfl⟩, ⟨_, _, rfl⟩, .inr ⟨rfl, h, rfl, rfl⟩, hb⟩
theorem asks_none {l : List UInt8} {w w' : World} (h : l = []) (hb : Below w.heap.size w w') : AsksAs l w (.returned (.tuple #[.slice none 0 0, .slice none 0 0, .int .i64 0])) w' :=
  ⟨_, _, [], [], 0, rfl, Wants.nil _, Pcks.nil _, ⟨_, _, rfl⟩, ⟨_, _, rfl⟩, .inl ⟨rfl, by rw [h]; rfl⟩, hb⟩
theorem asks_ok {TN TP : TypeId} {B : Nat} {l : List UInt8} {w w' : World} {vn vp : Value} {ns : List (Want × Value)} {ps : List Pck} (h : asksL l = some (ns.map Prod.fst, ps)) (hg : Got TN TP B w' vn vp ns ps) (hb : Below w.heap.size w w') :
    AsksAs l w (.returned (.tuple #[vn, vp, .int .i64 0])) w' :=
  ⟨vn, vp, ns, ps, 0, rfl, hg.wants, hg.pcks, hg.fn, hg.fp, .inl ⟨rfl, h⟩, hb⟩
/-- a line of a need; a line of a pick -/
theorem line_need {l : List UInt8} {bs : List Bnd} (h1 : (headAt 32 l).head? ≠ some 61) (h2 : rparseF (tailAt 32 l) = some bs) (h3 : nameOk (headAt 32 l) = true) : lineL l = some ([⟨headAt 32 l, bs⟩], []) := by
  unfold lineL; rw [if_neg h1, h2]; simp [h3]
theorem line_pick {l : List UInt8} {v : V4} (h1 : (headAt 32 l).head? = some 61) (h2 : vparseF (tailAt 32 l) = some v) (h3 : nameOk ((headAt 32 l).drop 1) = true) : lineL l = some ([], [⟨(headAt 32 l).drop 1, v⟩]) := by
  unfold lineL; rw [if_pos h1, h2]; simp only; rw [if_pos h3]
theorem line_no1 {l : List UInt8} (h1 : (headAt 32 l).head? ≠ some 61) (h2 : rparseF (tailAt 32 l) = none ∨ nameOk (headAt 32 l) = false) : lineL l = none := by
  unfold lineL
  rw [if_neg h1]
  cases h : rparseF (tailAt 32 l) with
  | none => rfl
  | some bs =>
    rcases h2 with h2 | h2
    · rw [h] at h2; cases h2
    · simp [h2]
theorem line_no2 {l : List UInt8} (h1 : (headAt 32 l).head? = some 61) (h2 : vparseF (tailAt 32 l) = none ∨ nameOk ((headAt 32 l).drop 1) = false) : lineL l = none := by
  unfold lineL
  rw [if_pos h1]
  cases h : vparseF (tailAt 32 l) with
  | none => rfl
  | some bs =>
    rcases h2 with h2 | h2
    · rw [h] at h2; cases h2
    · simp only; rw [if_neg (by rw [h2]; decide)]
theorem lines_need {ls : List (List UInt8)} {k : Nat} (hk : k < ls.length) {ns : List (Want × Value)} {ps : List Pck} (h : linesL (ls.take k) = some (ns.map Prod.fst, ps)) {x : Want} {rv : Value} (hl : lineL ls[k] = some ([x], [])) : linesL (ls.take (k + 1)) = some ((ns ++ [(x, rv)]).map Prod.fst, ps) := by
  rw [List.take_succ_eq_append_getElem hk, linesL_snoc _ _ h hl]; simp
theorem lines_pick {ls : List (List UInt8)} {k : Nat} (hk : k < ls.length) {ns : List (Want × Value)} {ps : List Pck} (h : linesL (ls.take k) = some (ns.map Prod.fst, ps)) {x : Pck} (hl : lineL ls[k] = some ([], [x])) : linesL (ls.take (k + 1)) = some (ns.map Prod.fst, ps ++ [x]) := by
  rw [List.take_succ_eq_append_getElem hk, linesL_snoc _ _ h hl]; simp
end Go
