/- What the rows of choices give and ask: the two tables; a world that holds them. A slice that came in, whose elements lie flat in some cells each. A row of picks that came in. Needs, offers, packages and cases that came in. -/
import Derived.Test.YtbgimpeklblcjaaGreatDoorCards
import Derived.Test.YtbgimpeklblcjaaGreatDoorTie
import Derived.Test.YtbgimpeklblcjaaGreatDoorSemLib
import Derived.ProofKit
import Derived.OpenShut
import Derived.ShutString
import Derived.ChangeOld
import Derived.Deep.DeepHandedRow
import Derived.Deep.DeepWitnessRowRef
import Derived.Lib.LaidU8
import Derived.Lib.LaidIn
import Derived.Lib.LaidTab
import Derived.Lib.SmallJoins
import Derived.Test.YtbgimpeklblcjaaGreatDoorCells
import Derived.Deep.Slices
import Derived.ChangeSame
import Derived.Test.YtbgimpeklblcjaaGreatDoorCmdMore
namespace Go.Proofs.YtbgimpeklblcjaaGreatDoor
open Go.ChangeShapes Go.WideShapes Go.ChangeAt Go.RowKit
theorem own : ownKnob Tryz.prog.godebug = none := by kernel_rfl
theorem laidOut : laidOutB Tryz.prog = true := by kernel_rfl
/-- what each row lists -/
def listed : List (String × DataW Unit) := [("unicode/utf8.acceptRanges", Rows.laid_unicode_utf8_acceptRanges), ("unicode/utf8.first", Rows.laid_unicode_utf8_first)]
theorem first_is : Rows.laid_unicode_utf8_first = Lib.firstData := by kernel_rfl
theorem accept_is : (Rows.laid_unicode_utf8_acceptRanges : DataW Unit) = Lib.acceptData := by kernel_rfl
theorem maxLen_cell {W : World} (h : W.ShapedOpen Tryz.prog) : ∃ m, W.cell? ⟨0, 0, none⟩ = some (.int .i64 m) :=
 cell_of_shapedOpen_int (zero := #[.int .i64 0]) (t := 3) h (of_decide_eq_true (by kernel_rfl)) (by kernel_rfl) rfl (by kernel_rfl) (by kernel_rfl) Tryz.underlying3
theorem env_of {W : World} (_ : laidMet Tryz.prog listed W) (hs : W.ShapedOpen Tryz.prog) : Env W := ⟨maxLen_cell hs, trivial⟩
/-- THE WITNESS: the settled world, the two variables holding what their initialisers lay. -/
noncomputable def laidWorld (os : Os) : World :=
 let w0 := World.holding Tryz.prog os ⟨#[], #[], []⟩
 let put (h : Array Obj) (g : Nat) (cs : Array Value) : Array Obj := h.modify g fun
  | .cells _ t frozen => .cells cs t frozen
  | o => o
 let h1 := put w0.heap 2 (Lib.firstTab.map fun z => Value.int .u8 z).toArray
 let h2 := put h1 3 ((List.range 16).flatMap fun i => [Value.int .u8 (Lib.accLo i), Value.int .u8 (Lib.accHi i)]).toArray
 { w0 with heap := h2 }
theorem laid_met (os : Os) (args : Array Value) : laidMet Tryz.prog listed ((laidWorld os).forCall (fun _ _ => 0) ⟨#[], args, []⟩).memory := by
 unfold listed
 rw [first_is, accept_is]
 exact laidMet_of_run' 8 (by kernel_rfl) (by kernel_rfl)
section
variable {H : Type} {enc : TypeId × Value → H} {W : World} {r : Reach} {b0 base : Nat} {sp : Nat → Bool} {held : Bool}
set_option maxRecDepth 100000 in
/-- a version that came in -/
theorem open_ver {v : Value} {d : DataW H} {p : List MemPlace} (hv : Value.okWide Tryz.prog W r b0 41 v) (h : DataW.Trod enc Tryz.prog W base sp held 41 v d p) :
  ∃ (a b c : Int) (s : ByteArray), v = .agg #[.int .i64 a, .int .i64 b, .int .i64 c, .string s] ∧ d = .agg [.lit (.int .i64 a), .lit (.int .i64 b), .lit (.int .i64 c), .lit (.string s.data.toList)] ∧ s.size ≤ maxLen := by
 obtain ⟨v0, v1, v2, v3, y0, y1, y2, y3, n, rfl, rfl, rfl, t0, t1, t2, t3⟩ := Joins.open_agg4 Tryz.underlying41 (by kernel_rfl) (by kernel_rfl) hv h
 obtain ⟨a, e0, rfl, _⟩ := DataW.trod_int Tryz.underlying3 t0
 obtain ⟨b, e1, rfl, _⟩ := DataW.trod_int Tryz.underlying3 t1
 obtain ⟨c, e2, rfl, _⟩ := DataW.trod_int Tryz.underlying3 t2
 obtain ⟨s, e3, rfl, hs⟩ := DataW.trod_string Tryz.underlying9 t3
 simp at e0 e1 e2 e3
 subst e0 e1 e2 e3
 exact ⟨a, b, c, s, rfl, rfl, hs⟩
end
set_option maxRecDepth 100000 in
theorem maxLen_le {n : Nat} (h : n ≤ maxLen) : n ≤ 9223372036854775807 := by unfold maxLen at h; omega
theorem str_bound {H : Type} {l : List (DataW H)} {s : ByteArray} (hm : DataW.lit (.string s.data.toList) ∈ l) (hk : Rows.uptoSmall H l = true) : s.size ≤ 1048576 := by
 have h := of_decide_eq_true hk
 have key : ∀ l : List (DataW H), DataW.lit (.string s.data.toList) ∈ l → s.size ≤ Rows.uptoBulkAll l := by
  intro l
  induction l with
  | nil => intro h; cases h
  | cons x r ih =>
   intro hm
   simp only [Rows.uptoBulkAll]
   rcases List.mem_cons.1 hm with rfl | hm
   ·simp only [Rows.uptoBulk]; rw [Lib.size_eq]; omega
   ·have := ih hm; omega
 exact Nat.le_trans (key l hm) h
end Go.Proofs.YtbgimpeklblcjaaGreatDoor

namespace Go
open Go.RowKit Go.Deep
theorem open_flat_len {α : Type} (cells : α → List Value) (K : Nat) (hc : ∀ x, (cells x).length = K) (vs : List α) : (vs.flatMap cells).length = vs.length * K := by
 induction vs with
 | nil => simp
 | cons v vs ih => rw [List.flatMap_cons, List.length_append, ih, List.length_cons, hc, Nat.add_mul]; omega
theorem flat_get {α : Type} (cells : α → List Value) (K : Nat) (hc : ∀ x, (cells x).length = K) (vs : List α) : ∀ (j : Nat) (h : j < vs.length) (i : Nat), i < K → (vs.flatMap cells)[j * K + i]? = (cells vs[j])[i]? := by
 induction vs with
 | nil => intro j h; cases h
 | cons v vs ih =>
  intro j h i hi
  rw [List.flatMap_cons]
  cases j with
  | zero => rw [Nat.zero_mul, Nat.zero_add, List.getElem?_append_left (by rw [hc]; exact hi)]; rfl
  | succ j =>
   rw [List.getElem?_append_right (by rw [hc, Nat.add_mul]; omega), hc, show (j + 1) * K + i - K = j * K + i by rw [Nat.add_mul]; omega, ih j (by simpa using h) i hi]
   rfl
section
variable {H : Type} {enc : TypeId × Value → H} {P : Program} {w : World} {base : Nat} {spare : Nat → Bool} {held : Bool}
/-- a struct's field, at its cells -/
theorem field_at {t : TypeId} {fs : Array Field} {fuel : Nat} {cs : List Value} {x : DataW H × List MemPlace} (ht : P.underlying t = some (.struct fs)) (h : DataW.trod enc P w base spare held fuel t cs = some x)
  (i o k : Nat) (f : Field) (hf : fs[i]? = some f) (ho : f.offset = o) (hk : P.cellsOf f.type = k) : ∃ n y, DataW.trod enc P w base spare held n f.type ((cs.drop o).take k) = some y := by
 obtain ⟨ys, n, _, _, _, hyl, hg⟩ := DataW.trod_struct ht h
 have h1 := hg i f hf
 rw [ho, hk] at h1
 have hi : i < fs.size := (Array.getElem?_eq_some_iff.1 hf).1
 rw [List.getElem?_eq_getElem (show i < ys.length by omega)] at h1
 exact ⟨n, _, h1⟩
theorem open_row {α : Type} (cells : α → List Value) (Pr : α → Prop) (K : Nat) (hK : 0 < K) (hc : ∀ x, (cells x).length = K) {t e : TypeId} (ht : P.underlying t = some (.slice e)) (hC : P.cellsOf e = K)
  (he : ∀ n cs y, DataW.trod enc P w base spare held n e cs = some y → cs.length = K → ∃ x, cells x = cs ∧ Pr x)
  {a0 : Option Addr} {len0 cap0 fuel : Nat} {x : DataW H × List MemPlace} (hf : DataW.trod enc P w base spare held fuel t [.slice a0 len0 cap0] = some x) :
  ∃ vs : List α, Row w K (.slice a0 len0 cap0) vs.length (vs.flatMap cells) ∧ len0 = vs.length ∧ len0 ≤ cap0 ∧ ∀ x ∈ vs, Pr x := by
 rcases open_slice ht hf with ⟨hcs, _⟩ | ⟨a, len, cap, m, n, D, Pl, hcs, hb, hl, hm, hmm, hx, hi⟩
 ·simp at hcs
  obtain ⟨rfl, rfl, rfl⟩ := hcs
  exact ⟨[], ⟨by simp, Nat.zero_le _, .inl ⟨_, _, rfl, rfl, fun _ => rfl⟩⟩, rfl, Nat.le_refl _, fun x hx => by cases hx⟩
 ·simp at hcs
  obtain ⟨rfl, rfl, rfl⟩ := hcs
  have hlm : len0 ≤ m := by rw [hmm]; split <;> omega
  have one : ∀ i, i < len0 → ∃ y : α, Pr y ∧ ∀ j, j < K → w.cell? (a.add (i * K + j)) = (cells y)[j]? := by
   intro i him
   obtain ⟨cs', h1, h2⟩ := hi i (by omega)
   rw [hC] at h1
   obtain ⟨_, hcl, hat⟩ := World.cells?_some h1
   obtain ⟨y, hy, hp⟩ := he _ _ _ h2 hcl
   exact ⟨y, hp, fun j hj => by rw [← Go.Deep.add_add, hat j hj, hy]⟩
  obtain ⟨vs, hlen, hvs⟩ : ∃ vs : List α, vs.length = len0 ∧ ∀ j (h : j < vs.length), Pr vs[j] ∧ ∀ i, i < K → w.cell? (a.add (j * K + i)) = (cells vs[j])[i]? := by
   refine ⟨List.ofFn fun i : Fin len0 => (one i.1 i.2).choose, by simp, fun j h => ?_⟩
   have := (one j (by simpa using h)).choose_spec
   simpa using this
  refine ⟨vs, ?_, hlen.symm, hl, ?_⟩
  ·rcases Nat.eq_zero_or_pos len0 with h0 | h0
   ·subst h0
    exact ⟨by rw [open_flat_len cells K hc], by omega, .inl ⟨_, _, rfl, hlen, fun h => by cases h⟩⟩
   ·have hc0 := (hvs 0 (by omega)).2 0 hK
    rw [List.getElem?_eq_getElem (by rw [hc]; exact hK)] at hc0
    obtain ⟨b, off, spot⟩ := a
    have hspot : spot = none := by simpa [Addr.add] using World.cell?_spot hc0
    subst hspot
    have hadd : ∀ j, (⟨b, off, none⟩ : Addr).add j = ⟨b, off + j, none⟩ := fun j => by unfold Addr.add; split <;> simp_all
    refine ⟨by rw [open_flat_len cells K hc], by omega, .inr ⟨b, off, _, by rw [hlen], by omega, ?_, fun j hj => ?_⟩⟩
    ·rw [hadd] at hc0; exact cell_lt hc0
    ·have hj4 : j = j / K * K + j % K := by have := Nat.div_add_mod j K; rw [Nat.mul_comm] at this; omega
     have hi4 : j / K < vs.length := (Nat.div_lt_iff_lt_mul hK).2 hj
     have hr4 : j % K < K := Nat.mod_lt _ hK
     have hg := flat_get cells K hc vs (j / K) hi4 (j % K) hr4
     rw [← hj4] at hg
     rw [hg, ← (hvs (j / K) hi4).2 (j % K) hr4, hadd, ← hj4]
  ·intro x hx
   obtain ⟨j, hj, rfl⟩ := List.getElem_of_mem hx
   exact (hvs j hj).1
end
end Go

namespace Go.Proofs.YtbgimpeklblcjaaGreatDoor
open Go.ChangeShapes Go.WideShapes Go.ChangeAt Go.RowKit Go.Deep
section
variable {H : Type} {enc : TypeId × Value → H} {W : World} {r : Reach} {b0 base : Nat} {sp : Nat → Bool} {held : Bool}
set_option maxRecDepth 100000 in
theorem el_ver (n : Nat) (cs : List Value) (y : DataW H × List MemPlace) (h : DataW.trod enc Tryz.prog W base sp held n 41 cs = some y) (hl : cs.length = 4) : ∃ v : V4, v.cells = cs ∧ v.p.size ≤ 9223372036854775807 := by
 obtain ⟨_, _, t0⟩ := field_at Tryz.underlying41 h 0 0 1 _ rfl (by kernel_rfl) (by kernel_rfl)
 obtain ⟨_, _, t1⟩ := field_at Tryz.underlying41 h 1 1 1 _ rfl (by kernel_rfl) (by kernel_rfl)
 obtain ⟨_, _, t2⟩ := field_at Tryz.underlying41 h 2 2 1 _ rfl (by kernel_rfl) (by kernel_rfl)
 obtain ⟨_, _, t3⟩ := field_at Tryz.underlying41 h 3 3 1 _ rfl (by kernel_rfl) (by kernel_rfl)
 obtain ⟨a, e0, _, _⟩ := DataW.trod_int Tryz.underlying3 t0
 obtain ⟨b, e1, _, _⟩ := DataW.trod_int Tryz.underlying3 t1
 obtain ⟨c, e2, _, _⟩ := DataW.trod_int Tryz.underlying3 t2
 obtain ⟨s, e3, _, hs⟩ := DataW.trod_string Tryz.underlying9 t3
 match cs, hl with
 | [c0, c1, c2, c3], _ =>
  simp at e0 e1 e2 e3
  subst e0 e1 e2 e3
  exact ⟨⟨a, b, c, s⟩, rfl, maxLen_le hs⟩
set_option maxRecDepth 100000 in
theorem el_pick (n : Nat) (cs : List Value) (y : DataW H × List MemPlace) (h : DataW.trod enc Tryz.prog W base sp held n 43 cs = some y) (hl : cs.length = 5) : ∃ b : Pik, b.cells = cs ∧ b.v.p.size ≤ 9223372036854775807 := by
 obtain ⟨_, _, t0⟩ := field_at Tryz.underlying43 h 0 0 1 _ rfl (by kernel_rfl) (by kernel_rfl)
 obtain ⟨_, _, t1⟩ := field_at Tryz.underlying43 h 1 1 4 _ rfl (by kernel_rfl) (by kernel_rfl)
 obtain ⟨a, e0, _, _⟩ := DataW.trod_string Tryz.underlying9 t0
 match cs, hl with
 | [c0, c1, c2, c3, c4], _ =>
  obtain ⟨v, e1, hv⟩ := el_ver _ _ _ t1 rfl
  simp at e0 e1
  subst e0
  exact ⟨⟨a, v⟩, by show _ :: v.cells = _; rw [e1], hv⟩
set_option maxRecDepth 100000 in
theorem open_piks {v : Value} {d : DataW H} {p : List MemPlace} (hv : Value.okWide Tryz.prog W r b0 23 v) (h : DataW.Trod enc Tryz.prog W base sp held 23 v d p) :
  ∃ bs : List Pik, Piks W v bs := by
 obtain ⟨a0, len0, cap0, rfl⟩ := okWide_slice Tryz.underlying23 hv
 obtain ⟨fuel, hf⟩ := h
 obtain ⟨bs, h1, rfl, _, h2⟩ := open_row Pik.cells (fun x => x.v.p.size ≤ 9223372036854775807) 5 (by decide) (fun _ => rfl) Tryz.underlying23 (by kernel_rfl) el_pick hf
 exact ⟨bs, h1⟩
end
end Go.Proofs.YtbgimpeklblcjaaGreatDoor

namespace Go.Proofs.YtbgimpeklblcjaaGreatDoor
open Go.ChangeShapes Go.WideShapes Go.ChangeAt Go.RowKit Go.Deep
section
variable {H : Type} {enc : TypeId × Value → H} {W : World} {r : Reach} {b0 base : Nat} {sp : Nat → Bool} {held : Bool}
set_option maxRecDepth 100000 in
theorem el_bndC (n : Nat) (cs : List Value) (y : DataW H × List MemPlace) (h : DataW.trod enc Tryz.prog W base sp held n 64 cs = some y) (hl : cs.length = 5) : ∃ b : Bnd, b.cells = cs ∧ True := by
 obtain ⟨_, _, t0⟩ := field_at Tryz.underlying64 h 0 0 1 _ rfl (by kernel_rfl) (by kernel_rfl)
 obtain ⟨_, _, t1⟩ := field_at Tryz.underlying64 h 1 1 4 _ rfl (by kernel_rfl) (by kernel_rfl)
 obtain ⟨a, e0, _, _⟩ := DataW.trod_int Tryz.underlying3 t0
 match cs, hl with
 | [c0, c1, c2, c3, c4], _ =>
  obtain ⟨v, e1, _⟩ := el_ver _ _ _ t1 rfl
  simp at e0 e1
  subst e0
  exact ⟨⟨a, v⟩, by show _ :: v.cells = _; rw [e1], trivial⟩
theorem slice_cell {t e : TypeId} (ht : Tryz.prog.underlying t = some (.slice e)) {n : Nat} {c : Value} {y : DataW H × List MemPlace} (h : DataW.trod enc Tryz.prog W base sp held n t [c] = some y) : ∃ a l k, c = .slice a l k := by
 rcases DataW.trod_slice ht h with ⟨hcs, _⟩ | ⟨a, l, c, _, _, _, _, hcs, _⟩
 ·simp at hcs; exact ⟨_, _, _, hcs⟩
 ·simp at hcs; exact ⟨_, _, _, hcs⟩
set_option maxRecDepth 100000 in
theorem el_need (n : Nat) (cs : List Value) (y : DataW H × List MemPlace) (h : DataW.trod enc Tryz.prog W base sp held n 60 cs = some y) (hl : cs.length = 2) : ∃ x : Want × Value, WCells x = cs ∧ RvOk W x := by
 obtain ⟨_, _, t0⟩ := field_at Tryz.underlying60 h 0 0 1 _ rfl (by kernel_rfl) (by kernel_rfl)
 obtain ⟨_, _, t1⟩ := field_at Tryz.underlying60 h 1 1 1 _ rfl (by kernel_rfl) (by kernel_rfl)
 obtain ⟨s, e0, _, _⟩ := DataW.trod_string Tryz.underlying9 t0
 match cs, hl with
 | [c0, c1], _ =>
  simp at e0 t1
  subst e0
  obtain ⟨a, l, k, rfl⟩ := slice_cell Tryz.underlying58 t1
  obtain ⟨bs, h1, rfl, _, _⟩ := open_row Bnd.cells (fun _ => True) 5 (by decide) (fun _ => rfl) Tryz.underlying58 (by kernel_rfl) el_bndC t1
  exact ⟨(⟨s.data.toList, bs⟩, .slice a bs.length k), by simp [WCells, S_of], h1, _, _, rfl⟩
theorem rows_needs {n : Nat} {a : Option Addr} {l k : Nat} {y : DataW H × List MemPlace} (h : DataW.trod enc Tryz.prog W base sp held n 24 [.slice a l k] = some y) : ∃ ns : List (Want × Value), Wants W (.slice a l k) ns ∧ l = ns.length := by
 obtain ⟨ns, h1, h2, _, h3⟩ := open_row WCells (RvOk W) 2 (by decide) (fun _ => rfl) Tryz.underlying24 (by kernel_rfl) el_need h
 exact ⟨ns, ⟨h1, h3⟩, h2⟩
set_option maxRecDepth 100000 in
theorem el_off (n : Nat) (cs : List Value) (y : DataW H × List MemPlace) (h : DataW.trod enc Tryz.prog W base sp held n 55 cs = some y) (hl : cs.length = 6) : ∃ o : DOff, o.cells = cs ∧ o.ok W := by
 obtain ⟨_, _, t0⟩ := field_at Tryz.underlying55 h 0 0 4 _ rfl (by kernel_rfl) (by kernel_rfl)
 obtain ⟨_, _, t1⟩ := field_at Tryz.underlying55 h 1 4 1 _ rfl (by kernel_rfl) (by kernel_rfl)
 obtain ⟨_, _, t2⟩ := field_at Tryz.underlying55 h 2 5 1 _ rfl (by kernel_rfl) (by kernel_rfl)
 obtain ⟨b, e1, _⟩ := DataW.trod_bool Tryz.underlying4 t1
 match cs, hl with
 | [c0, c1, c2, c3, c4, c5], _ =>
  obtain ⟨v, e0, _⟩ := el_ver _ _ _ t0 rfl
  simp at e0 e1 t2
  subst e1
  obtain ⟨a, l, k, rfl⟩ := slice_cell Tryz.underlying24 t2
  obtain ⟨ns, h1, rfl⟩ := rows_needs t2
  refine ⟨⟨v, b, ns, a, k⟩, ?_, h1, _, _, rfl⟩
  have e2 : v.cells ++ [.bool b, .slice a ns.length k] = [c0, c1, c2, c3] ++ [.bool b, .slice a ns.length k] := by rw [e0]
  exact e2
theorem rows_offs {n : Nat} {a : Option Addr} {l k : Nat} {y : DataW H × List MemPlace} (h : DataW.trod enc Tryz.prog W base sp held n 50 [.slice a l k] = some y) : ∃ os : List DOff, Offs W (.slice a l k) os ∧ l = os.length := by
 obtain ⟨os, h1, h2, _, h3⟩ := open_row DOff.cells (DOff.ok W) 6 (by decide) (fun _ => rfl) Tryz.underlying50 (by kernel_rfl) el_off h
 exact ⟨os, ⟨h1, h3⟩, h2⟩
set_option maxRecDepth 100000 in
theorem el_pack (n : Nat) (cs : List Value) (y : DataW H × List MemPlace) (h : DataW.trod enc Tryz.prog W base sp held n 52 cs = some y) (hl : cs.length = 2) : ∃ x : DPack, x.cells = cs ∧ x.ok W := by
 obtain ⟨_, _, t0⟩ := field_at Tryz.underlying52 h 0 0 1 _ rfl (by kernel_rfl) (by kernel_rfl)
 obtain ⟨_, _, t1⟩ := field_at Tryz.underlying52 h 1 1 1 _ rfl (by kernel_rfl) (by kernel_rfl)
 obtain ⟨s, e0, _, _⟩ := DataW.trod_string Tryz.underlying9 t0
 match cs, hl with
 | [c0, c1], _ =>
  simp at e0 t1
  subst e0
  obtain ⟨a, l, k, rfl⟩ := slice_cell Tryz.underlying50 t1
  obtain ⟨os, h1, rfl⟩ := rows_offs t1
  exact ⟨⟨s, os, a, k⟩, rfl, h1, _, _, rfl⟩
theorem rows_packs {n : Nat} {a : Option Addr} {l k : Nat} {y : DataW H × List MemPlace} (h : DataW.trod enc Tryz.prog W base sp held n 22 [.slice a l k] = some y) : ∃ ps : List DPack, Packs W (.slice a l k) ps ∧ l = ps.length := by
 obtain ⟨ps, h1, h2, _, h3⟩ := open_row DPack.cells (DPack.ok W) 2 (by decide) (fun _ => rfl) Tryz.underlying22 (by kernel_rfl) el_pack h
 exact ⟨ps, ⟨h1, h3⟩, h2⟩
theorem rows_piks {n : Nat} {a : Option Addr} {l k : Nat} {y : DataW H × List MemPlace} (h : DataW.trod enc Tryz.prog W base sp held n 23 [.slice a l k] = some y) : ∃ ps : List Pik, Piks W (.slice a l k) ps ∧ l = ps.length := by
 obtain ⟨ps, h1, h2, _, _⟩ := open_row Pik.cells (fun x => x.v.p.size ≤ 9223372036854775807) 5 (by decide) (fun _ => rfl) Tryz.underlying23 (by kernel_rfl) el_pick h
 exact ⟨ps, h1, h2⟩
set_option maxRecDepth 100000 in
/-- needs that came in -/
theorem open_needs {v : Value} {d : DataW H} {p : List MemPlace} (hv : Value.okWide Tryz.prog W r b0 24 v) (h : DataW.Trod enc Tryz.prog W base sp held 24 v d p) : ∃ ns : List (Want × Value), Wants W v ns := by
 obtain ⟨a0, len0, cap0, rfl⟩ := okWide_slice Tryz.underlying24 hv
 obtain ⟨fuel, hf⟩ := h
 obtain ⟨ns, h1, _⟩ := rows_needs hf
 exact ⟨ns, h1⟩
set_option maxRecDepth 100000 in
/-- packages that came in -/
theorem open_packs {v : Value} {d : DataW H} {p : List MemPlace} (hv : Value.okWide Tryz.prog W r b0 22 v) (h : DataW.Trod enc Tryz.prog W base sp held 22 v d p) : ∃ ps : List DPack, Packs W v ps := by
 obtain ⟨a0, len0, cap0, rfl⟩ := okWide_slice Tryz.underlying22 hv
 obtain ⟨fuel, hf⟩ := h
 obtain ⟨ps, h1, _⟩ := rows_packs hf
 exact ⟨ps, h1⟩
set_option maxRecDepth 100000 in
/-- a package that came in -/
theorem open_pack {v : Value} {d : DataW H} {p : List MemPlace} (hv : Value.okWide Tryz.prog W r b0 52 v) (h : DataW.Trod enc Tryz.prog W base sp held 52 v d p) :
  ∃ (nm : ByteArray) (os : List DOff) (a : Option Addr) (k : Nat), v = .agg #[.string nm, .slice a os.length k] ∧ Offs W (.slice a os.length k) os := by
 obtain ⟨v0, v1, y0, y1, n, rfl, rfl, rfl, t0, t1⟩ := Joins.open_agg2 Tryz.underlying52 (by kernel_rfl) (by kernel_rfl) hv h
 obtain ⟨s, e0, rfl, _⟩ := DataW.trod_string Tryz.underlying9 t0
 simp at e0
 subst e0
 obtain ⟨a, l, k, rfl⟩ := slice_cell Tryz.underlying50 t1
 obtain ⟨os, h1, rfl⟩ := rows_offs t1
 exact ⟨s, os, a, k, rfl, h1⟩
set_option maxRecDepth 100000 in
/-- a case that came in -/
theorem open_case {v : Value} {d : DataW H} {p : List MemPlace} (hv : Value.okWide Tryz.prog W r b0 26 v) (h : DataW.Trod enc Tryz.prog W base sp held 26 v d p) :
  ∃ (pk lk nv : Value) (ps : List DPack) (lock : List Pik) (needs : List (Want × Value)), v = .agg #[pk, lk, nv] ∧ Packs W pk ps ∧ Piks W lk lock ∧ Wants W nv needs := by
 obtain ⟨v0, v1, v2, y0, y1, y2, n, rfl, rfl, rfl, t0, t1, t2⟩ := Joins.open_agg3 Tryz.underlying26 (by kernel_rfl) (by kernel_rfl) hv h
 obtain ⟨a, l, k, rfl⟩ := slice_cell Tryz.underlying22 t0
 obtain ⟨a', l', k', rfl⟩ := slice_cell Tryz.underlying23 t1
 obtain ⟨a'', l'', k'', rfl⟩ := slice_cell Tryz.underlying24 t2
 obtain ⟨ps, h1, _⟩ := rows_packs t0
 obtain ⟨lock, h2, _⟩ := rows_piks t1
 obtain ⟨ns, h3, _⟩ := rows_needs t2
 exact ⟨_, _, _, ps, lock, ns, rfl, h1, h2, h3⟩
end
end Go.Proofs.YtbgimpeklblcjaaGreatDoor
