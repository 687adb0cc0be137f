/- Choices, plainly and in memory: offers and packages; what is locked; what may be chosen, and in which order. -/
import Derived.Test.YtbihdgnhdlpmgaaGreatDoorCmdRows
import Derived.Test.YtbihdgnhdlpmgaaGreatDoorLockMath
namespace Go
open Go.RowKit
/-- an offer, with its needs and the slice that holds them -/
structure DOff where
  v : V4
  y : Bool
  ns : List (Want × Value)
  na : Option Addr
  nc : Nat
def DOff.nv (o : DOff) : Value := .slice o.na o.ns.length o.nc
theorem DOff.nv_one (o : DOff) : o.nv.oneCell' = true := rfl
def DOff.cells (o : DOff) : List Value := [.int .i64 o.v.a, .int .i64 o.v.b, .int .i64 o.v.c, .string o.v.p, .bool o.y, o.nv]
def DOff.val (o : DOff) : Value := .agg #[.int .i64 o.v.a, .int .i64 o.v.b, .int .i64 o.v.c, .string o.v.p, .bool o.y, o.nv]
def DOff.ok (w : World) (o : DOff) : Prop := Wants w o.nv o.ns ∧ ∃ a cap, o.nv = .slice a o.ns.length cap
theorem DOff.ok.below {w w' : World} {o : DOff} (h : o.ok w) {B : Nat} (hb : Below B w w') (hB : w.heap.size ≤ B) : o.ok w' := ⟨h.1.below hb hB, h.2⟩
/-- a row of offers, their cells alone -/
def ORow (w : World) (v : Value) (os : List DOff) : Prop := Row w 6 v os.length (os.flatMap DOff.cells)
def Offs (w : World) (v : Value) (os : List DOff) : Prop := ORow w v os ∧ ∀ o ∈ os, o.ok w
theorem ORow.below {w w' : World} {v : Value} {os : List DOff} (h : ORow w v os) {B : Nat} (hb : Below B w w') (hB : w.heap.size ≤ B) : ORow w' v os := Row.below h hb hB
theorem Offs.below {w w' : World} {v : Value} {os : List DOff} (h : Offs w v os) {B : Nat} (hb : Below B w w') (hB : w.heap.size ≤ B) : Offs w' v os := ⟨h.1.below hb hB, fun o ho => (h.2 o ho).below hb hB⟩
theorem offs_len (os : List DOff) : (os.flatMap DOff.cells).length = os.length * 6 := by
  induction os with
  | nil => rfl
  | cons o os ih => rw [List.flatMap_cons, List.length_append, ih, List.length_cons]; simp [DOff.cells]; omega
theorem offs_get (os : List DOff) : ∀ (j : Nat) (h : j < os.length) (i : Nat), i < 6 → (os.flatMap DOff.cells)[j * 6 + i]? = (os[j].cells)[i]? := by
  induction os with
  | nil => intro j h; cases h
  | cons o os ih =>
    intro j h i hi
    rw [List.flatMap_cons]
    cases j with
    | zero =>
      have : i < o.cells.length := hi
      rw [Nat.zero_mul, Nat.zero_add, List.getElem?_append_left this]; rfl
    | succ j =>
      have hl : o.cells.length = 6 := rfl
      rw [List.getElem?_append_right (by rw [hl]; omega), hl, show (j + 1) * 6 + i - 6 = j * 6 + i by omega, ih j (by simpa using h) i hi]
      rfl
theorem ORow.len {w : World} {v : Value} {os : List DOff} (h : ORow w v os) : os.length ≤ maxLen ∧ ∃ a cap, v = .slice a os.length cap := by
  obtain ⟨_, h2, ⟨a, cap, h3, h4, _⟩ | ⟨b, off, cap, h3, _⟩⟩ := h
  · exact ⟨h2, a, cap, by rw [h3, h4]⟩
  · exact ⟨h2, _, cap, h3⟩
/-- the cells of one, at a later world -/
theorem ORow.at' {w w' : World} {a : Option Addr} {cap : Nat} {os : List DOff} (h : ORow w (.slice a os.length cap) os) (hb : Below w.heap.size w w') {k : Nat} (hk : k < os.length) :
    ∃ b off, a = some ⟨b, off, none⟩ ∧ b < w.heap.size ∧ w'.cell? ⟨b, off + k * 6, none⟩ = some (.int .i64 os[k].v.a) ∧ w'.cell? ⟨b, off + k * 6 + 1, none⟩ = some (.int .i64 os[k].v.b) ∧ w'.cell? ⟨b, off + k * 6 + 2, none⟩ = some (.int .i64 os[k].v.c) ∧
      w'.cell? ⟨b, off + k * 6 + 3, none⟩ = some (.string os[k].v.p) ∧ w'.cell? ⟨b, off + k * 6 + 4, none⟩ = some (.bool os[k].y) ∧ w'.cell? ⟨b, off + k * 6 + 5, none⟩ = some os[k].nv := by
  obtain ⟨h1, h2, ⟨a', cap', h3, h4, _⟩ | ⟨b, off, cap', h3, h4, h5, h6⟩⟩ := h
  · omega
  · injection h3 with h3 _ _
    have g : ∀ i, i < 6 → w'.cell? ⟨b, off + k * 6 + i, none⟩ = (os[k].cells)[i]? := fun i hi => by
      rw [hb.cell (p := ⟨b, off + k * 6 + i, none⟩) h5, Nat.add_assoc, h6 (k * 6 + i) (by omega), offs_get os k hk i hi]
    exact ⟨b, off, h3, h5, g 0 (by decide), g 1 (by decide), g 2 (by decide), g 3 (by decide), g 4 (by decide), g 5 (by decide)⟩
theorem ORow.of_owns {w : World} {base : Nat} {e : TypeId} {v : Value} {n : Nat} {os : List DOff} (h : w.ownsRow base e 6 v n (os.flatMap DOff.cells)) : ORow w v os := by
  have h1 : n = os.length := by have := h.1; rw [offs_len] at this; omega
  subst h1; exact Row.of_owns h
/-- a package -/
structure DPack where
  name : ByteArray
  os : List DOff
  oa : Option Addr
  oc : Nat
def DPack.ov (p : DPack) : Value := .slice p.oa p.os.length p.oc
def DPack.cells (p : DPack) : List Value := [.string p.name, p.ov]
def DPack.ok (w : World) (p : DPack) : Prop := Offs w p.ov p.os ∧ ∃ a cap, p.ov = .slice a p.os.length cap
def Packs (w : World) (v : Value) (ps : List DPack) : Prop := Row w 2 v ps.length (ps.flatMap DPack.cells) ∧ ∀ p ∈ ps, p.ok w
theorem DPack.ok.below {w w' : World} {p : DPack} (h : p.ok w) {B : Nat} (hb : Below B w w') (hB : w.heap.size ≤ B) : p.ok w' := ⟨h.1.below hb hB, h.2⟩
theorem Packs.below {w w' : World} {v : Value} {ps : List DPack} (h : Packs w v ps) {B : Nat} (hb : Below B w w') (hB : w.heap.size ≤ B) : Packs w' v ps := ⟨Row.below h.1 hb hB, fun p hp => (h.2 p hp).below hb hB⟩
theorem packs_get (ps : List DPack) : ∀ (j : Nat) (h : j < ps.length) (i : Nat), i < 2 → (ps.flatMap DPack.cells)[j * 2 + i]? = (ps[j].cells)[i]? := by
  induction ps with
  | nil => intro j h; cases h
  | cons o os ih =>
    intro j h i hi
    rw [List.flatMap_cons]
    cases j with
    | zero =>
      have : i < o.cells.length := hi
      rw [Nat.zero_mul, Nat.zero_add, List.getElem?_append_left this]; rfl
    | succ j =>
      have hl : o.cells.length = 2 := rfl
      rw [List.getElem?_append_right (by rw [hl]; omega), hl, show (j + 1) * 2 + i - 2 = j * 2 + i by omega, ih j (by simpa using h) i hi]
      rfl
theorem Packs.len {w : World} {v : Value} {ps : List DPack} (h : Packs w v ps) : ps.length ≤ maxLen ∧ ∃ a cap, v = .slice a ps.length cap := by
  obtain ⟨⟨_, h2, ⟨a, cap, h3, h4, _⟩ | ⟨b, off, cap, h3, _⟩⟩, _⟩ := h
  · exact ⟨h2, a, cap, by rw [h3, h4]⟩
  · exact ⟨h2, _, cap, h3⟩
theorem Packs.at' {w w' : World} {a : Option Addr} {cap : Nat} {ps : List DPack} (h : Packs w (.slice a ps.length cap) ps) (hb : Below w.heap.size w w') {k : Nat} (hk : k < ps.length) :
    ∃ b off, a = some ⟨b, off, none⟩ ∧ b < w.heap.size ∧ w'.cell? ⟨b, off + k * 2, none⟩ = some (.string ps[k].name) ∧ w'.cell? ⟨b, off + k * 2 + 1, none⟩ = some ps[k].ov := by
  obtain ⟨⟨h1, h2, ⟨a', cap', h3, h4, _⟩ | ⟨b, off, cap', h3, h4, h5, h6⟩⟩, _⟩ := h
  · omega
  · injection h3 with h3 _ _
    have g : ∀ i, i < 2 → w'.cell? ⟨b, off + k * 2 + i, none⟩ = (ps[k].cells)[i]? := fun i hi => by
      rw [hb.cell (p := ⟨b, off + k * 2 + i, none⟩) h5, Nat.add_assoc, h6 (k * 2 + i) (by omega), packs_get ps k hk i hi]
    exact ⟨b, off, h3, h5, g 0 (by decide), g 1 (by decide)⟩
/-- the package of a name -/
def findP (ps : List DPack) (nm : ByteArray) : DPack := (ps.find? fun p => decide (p.name = nm)).getD ⟨nm, [], none, 0⟩
/-! what is locked; the order of choices -/
def V4.same (x y : V4) : Bool := decide (x.a = y.a ∧ x.b = y.b ∧ x.c = y.c ∧ x.p = y.p)
theorem V4.same_eq (x y : V4) : V4.same x y = true ↔ x = y := by
  unfold V4.same
  rw [decide_eq_true_eq]
  obtain ⟨a, b, c, p⟩ := x
  obtain ⟨a', b', c', p'⟩ := y
  simp
def lockB (nm : ByteArray) (v : V4) (p : Pik) : Bool := decide (p.name = nm ∧ p.v.a = v.a ∧ p.v.b = v.b ∧ p.v.c = v.c ∧ p.v.p = v.p)
def lockedB (lock : List Pik) (nm : ByteArray) (v : V4) : Bool := lock.any (lockB nm v)
def lockN (lock : List Pik) (nm : ByteArray) (x y : V4) : Int := if lockedB lock nm x = lockedB lock nm y then 0 else if lockedB lock nm x = true then -1 else 1
def cmpO (lock : List Pik) (nm : ByteArray) (x y : DOff) : Int := or2 (lockN lock nm x.v y.v) (V4.cmp y.v x.v)
theorem good_lockN (lock : List Pik) (nm : ByteArray) : OrdG (fun x y : DOff => lockN lock nm x.v y.v) := by
  refine ⟨fun x y => ?_, fun x y z h1 h2 => ?_⟩
  · show lockN lock nm x.v y.v = - lockN lock nm y.v x.v
    unfold lockN
    generalize lockedB lock nm x.v = p
    generalize lockedB lock nm y.v = q
    cases p <;> cases q <;> decide
  · have h1 : lockN lock nm x.v y.v ≤ 0 := h1
    have h2 : lockN lock nm y.v z.v ≤ 0 := h2
    show lockN lock nm x.v z.v ≤ 0
    unfold lockN at h1 h2 ⊢
    revert h1 h2
    generalize lockedB lock nm x.v = p
    generalize lockedB lock nm y.v = q
    generalize lockedB lock nm z.v = r
    cases p <;> cases q <;> cases r <;> decide
theorem good_flip {α : Type} {f : α → α → Int} (h : OrdG f) : OrdG (fun x y => f y x) :=
  ⟨fun x y => h.1 y x, fun x y z h1 h2 => h.2 z y x h2 h1⟩
theorem good_cmpO (lock : List Pik) (nm : ByteArray) : OrdG (cmpO lock nm) :=
  (good_lockN lock nm).lex ((good_flip good_v4).comap fun x : DOff => x.v)
/-! what may be chosen -/
def needOk (nm : ByteArray) (v : V4) (x : Want × Value) : Bool := decide (x.1.name ≠ nm.data.toList) || meetsR v x.1.bs
def fitO (lock : List Pik) (nm : ByteArray) (needs : List (Want × Value)) (o : DOff) : Bool := o.v.ok && (!o.y || lockedB lock nm o.v) && needs.all (needOk nm o.v)
def thereB (out : List DOff) (o : DOff) : Bool := out.any fun x => V4.same x.v o.v
def selStep (lock : List Pik) (nm : ByteArray) (needs : List (Want × Value)) (out : List DOff) (o : DOff) : List DOff := if thereB out o = false ∧ fitO lock nm needs o = true then out ++ [o] else out
def selL (lock : List Pik) (nm : ByteArray) (needs : List (Want × Value)) (os : List DOff) : List DOff := os.foldl (selStep lock nm needs) []
/-- the choices: those that may be, in order -/
def ChoiceIs (lock : List Pik) (nm : ByteArray) (needs : List (Want × Value)) (os out : List DOff) : Prop :=
  out.Perm (selL lock nm needs os) ∧ out.Pairwise fun x y => cmpO lock nm x y < 0
theorem pairwise_uniq {α : Type} {r : α → α → Prop} (hi : ∀ x, ¬ r x x) (ht : ∀ x y z, r x y → r y z → r x z) : ∀ {a b : List α}, a.Pairwise r → b.Pairwise r → (∀ x, x ∈ a ↔ x ∈ b) → a = b
  | [], [], _, _, _ => rfl
  | [], y :: b, _, _, h => absurd ((h y).2 List.mem_cons_self) (by simp)
  | x :: a, [], _, _, h => absurd ((h x).1 List.mem_cons_self) (by simp)
  | x :: a, y :: b, ha, hb, h => by
    obtain ⟨a1, a2⟩ := List.pairwise_cons.1 ha
    obtain ⟨b1, b2⟩ := List.pairwise_cons.1 hb
    have e : x = y := by
      rcases List.mem_cons.1 ((h x).1 List.mem_cons_self) with e | hx
      · exact e
      · rcases List.mem_cons.1 ((h y).2 List.mem_cons_self) with e | hy
        · exact e.symm
        · exact absurd (ht _ _ _ (b1 x hx) (a1 y hy)) (hi y)
    subst e
    rw [pairwise_uniq hi ht a2 b2 (fun z => ?_)]
    constructor
    · intro hz
      rcases List.mem_cons.1 ((h z).1 (List.mem_cons_of_mem _ hz)) with e | hz'
      · subst e; exact absurd (a1 z hz) (hi z)
      · exact hz'
    · intro hz
      rcases List.mem_cons.1 ((h z).2 (List.mem_cons_of_mem _ hz)) with e | hz'
      · subst e; exact absurd (b1 z hz) (hi z)
      · exact hz'
theorem ChoiceIs.uniq {lock : List Pik} {nm : ByteArray} {needs : List (Want × Value)} {os a b : List DOff} (h : ChoiceIs lock nm needs os a) (h' : ChoiceIs lock nm needs os b) : a = b := by
  have ho := good_cmpO lock nm
  refine pairwise_uniq (fun x hx => ?_) (fun x y z p q => ?_) h.2 h'.2 (fun x => ?_)
  · have := ho.self x; omega
  · exact ho.lt_le p (by omega)
  · rw [h.1.mem_iff, h'.1.mem_iff]
/-- those that are selected may be, and no two have one version -/
theorem sel_inv (lock : List Pik) (nm : ByteArray) (needs : List (Want × Value)) : ∀ (os out : List DOff), ((∀ o ∈ out, fitO lock nm needs o = true) ∧ out.Pairwise fun x y => x.v ≠ y.v) →
    ((∀ o ∈ os.foldl (selStep lock nm needs) out, fitO lock nm needs o = true) ∧ (os.foldl (selStep lock nm needs) out).Pairwise fun x y => x.v ≠ y.v)
  | [], _, h => h
  | o :: os, out, h => by
    rw [List.foldl_cons]
    refine sel_inv lock nm needs os _ ?_
    unfold selStep
    split
    · rename_i hc
      refine ⟨fun x hx => ?_, List.pairwise_append.2 ⟨h.2, by simp, fun x hx y hy => ?_⟩⟩
      · rcases List.mem_append.1 hx with hx | hx
        · exact h.1 x hx
        · simp at hx; subst hx; exact hc.2
      · simp at hy; subst hy
        intro e
        have : thereB out y = true := List.any_eq_true.2 ⟨x, hx, (V4.same_eq _ _).2 e⟩
        rw [hc.1] at this; cases this
    · exact h
theorem sel_ok {lock : List Pik} {nm : ByteArray} {needs : List (Want × Value)} {os : List DOff} : (∀ o ∈ selL lock nm needs os, fitO lock nm needs o = true) ∧ (selL lock nm needs os).Pairwise fun x y => x.v ≠ y.v :=
  sel_inv lock nm needs os [] ⟨(fun o h => by cases h), List.Pairwise.nil⟩
theorem fit_ok {lock : List Pik} {nm : ByteArray} {needs : List (Want × Value)} {o : DOff} (h : fitO lock nm needs o = true) : o.v.ok = true := by
  unfold fitO at h
  rw [Bool.and_eq_true, Bool.and_eq_true] at h
  exact h.1.1
/-- unlike versions that may be are not alike in order -/
theorem cmpO_ne {lock : List Pik} {nm : ByteArray} {x y : DOff} (hx : x.v.ok = true) (hy : y.v.ok = true) (h : x.v ≠ y.v) : cmpO lock nm x y ≠ 0 := by
  intro h0
  unfold cmpO or2 at h0
  split at h0
  · have := cmpV_zero (show verOk y.v.a y.v.b y.v.c y.v.p.data.toList = true from hy) (show verOk x.v.a x.v.b x.v.c x.v.p.data.toList = true from hx) h0
    apply h
    rw [← V4.same_eq]
    unfold V4.same
    obtain ⟨h1, h2, h3, h4⟩ := this
    exact decide_eq_true ⟨h1.symm, h2.symm, h3.symm, ByteArray.ext (Array.toList_inj.1 h4.symm)⟩
  · rename_i h; exact h h0
end Go
