/- Sorting in place: rows of six cells an element; slices.swapRangeCmpFunc, rotateCmpFunc at offers: walks. Append to a row of the call's own, as one step of a region that draws its order; what a call leaves standing; sums of texts. Sorting in place: slices.rotateCmpFunc, insertionSortCmpFunc at offers: walks. Sorting in place: slices.symMergeCmpFunc at offers, a run of one: walks. Sorting in place: slices.symMergeCmpFunc at offers, the cut ahead of the middle: a walk. Sorting in place: slices.symMergeCmpFunc at offers, the cut behind the middle: a walk. -/
import Derived.Test.YtbgimpeklblcjaaGreatDoorStabPlain
import Derived.Test.YtbgimpeklblcjaaGreatDoorSemCom
import Derived.Test.YtbgimpeklblcjaaGreatDoorProg
import Derived.BigRegion
import Derived.Lib.BufferOwn
import Derived.Laws.IdiomCopy
import Derived.Deep.RegionLaw
import Derived.Maps.AppendAt
namespace Go
open Go.RowKit
/-- how an element lies in six cells -/
structure Six (β : Type) where
 a0 : β → Value
 a1 : β → Value
 a2 : β → Value
 a3 : β → Value
 a4 : β → Value
 a5 : β → Value
section
variable {β : Type} (c : Six β)
def Six.list (x : β) : List Value := [c.a0 x, c.a1 x, c.a2 x, c.a3 x, c.a4 x, c.a5 x]
def Six.val (x : β) : Value := .agg #[c.a0 x, c.a1 x, c.a2 x, c.a3 x, c.a4 x, c.a5 x]
def flat6 (n : Nat) (f : Nat → β × Nat) : List Value := (List.range n).flatMap fun i => c.list (f i).1
theorem flat6_succ (n : Nat) (f : Nat → β × Nat) : flat6 c (n + 1) f = flat6 c n f ++ c.list (f n).1 := by
 unfold flat6; rw [List.range_succ, List.flatMap_append]; simp
theorem flat6_len (n : Nat) (f : Nat → β × Nat) : (flat6 c n f).length = n * 6 := by
 induction n with
 | zero => rfl
 | succ n ih => rw [flat6_succ, List.length_append, ih]; simp [Six.list]; omega
theorem flat6_get (f : Nat → β × Nat) {i j : Nat} (hj : j < 6) : ∀ {n : Nat}, i < n → (flat6 c n f)[i * 6 + j]? = (c.list (f i).1)[j]?
 | 0, h => by omega
 | n + 1, h => by
  rw [flat6_succ]
  by_cases hi : i < n
  ·rw [List.getElem?_append_left (by rw [flat6_len]; omega), flat6_get f hj hi]
  ·obtain rfl : i = n := by omega
   rw [List.getElem?_append_right (by rw [flat6_len]; omega), flat6_len, show i * 6 + j - i * 6 = j by omega]
def upd6 (f : Nat → β × Nat) (i : Nat) (y : β × Nat) : Nat → β × Nat := fun k => if k = i then y else f k
theorem swp_upd (f : Nat → β × Nat) (x y : Nat) : upd6 (upd6 f x (f y)) y (f x) = Stab.swp f x y := by
 funext k
 unfold upd6 Stab.swp
 by_cases h1 : k = y
 ·rw [if_pos h1]
  by_cases h2 : k = x
  ·rw [if_pos h2, ← h1, h2]
  ·rw [if_neg h2, if_pos h1]
 ·rw [if_neg h1, if_neg h1]
theorem flat6_set (f : Nat → β × Nat) (y : β × Nat) {i n : Nat} (hi : i < n) :
  ((((((flat6 c n f).set (i * 6) (c.a0 y.1)).set (i * 6 + 1) (c.a1 y.1)).set (i * 6 + 2) (c.a2 y.1)).set (i * 6 + 3) (c.a3 y.1)).set (i * 6 + 4) (c.a4 y.1)).set (i * 6 + 5) (c.a5 y.1) = flat6 c n (upd6 f i y) := by
 apply List.ext_getElem?
 intro k
 by_cases hk : k < n * 6
 ·obtain ⟨q, r, hr, rfl⟩ : ∃ q r, r < 6 ∧ k = q * 6 + r := ⟨k / 6, k % 6, Nat.mod_lt _ (by decide), by omega⟩
  have hq : q < n := by omega
  rw [flat6_get c (upd6 f i y) hr hq]
  simp only [List.getElem?_set, List.length_set, flat6_len]
  by_cases e : q = i
  ·subst e
   have : upd6 f q y q = y := by unfold upd6; rw [if_pos rfl]
   rw [this]
   have h6 : r = 0 ∨ r = 1 ∨ r = 2 ∨ r = 3 ∨ r = 4 ∨ r = 5 := by omega
   have hx : q * 6 < n * 6 ∧ q * 6 + 1 < n * 6 ∧ q * 6 + 2 < n * 6 ∧ q * 6 + 3 < n * 6 ∧ q * 6 + 4 < n * 6 ∧ q * 6 + 5 < n * 6 := by omega
   obtain ⟨x0, x1, x2, x3, x4, x5⟩ := hx
   rcases h6 with rfl | rfl | rfl | rfl | rfl | rfl <;> simp [Six.list, x0, x1, x2, x3, x4, x5]
  ·have : upd6 f i y q = f q := by unfold upd6; rw [if_neg e]
   rw [this, if_neg (by omega), if_neg (by omega), if_neg (by omega), if_neg (by omega), if_neg (by omega), if_neg (by omega), flat6_get c f hr hq]
 ·rw [List.getElem?_eq_none (by simp only [List.length_set, flat6_len]; omega), List.getElem?_eq_none (by rw [flat6_len]; omega)]
/-- a row of six cells an element, of the call's own, at g -/
def Own6 (B T g n cap : Nat) (f : Nat → β × Nat) (w : World) : Prop := w.ownsRow B T 6 (.slice (some ⟨g, 0, none⟩) n cap) n (flat6 c n f)
theorem Own6.cells {B T g n cap : Nat} {f : Nat → β × Nat} {w : World} (h : Own6 c B T g n cap f w) {i : Nat} (hi : i < n) :
  w.cell? ⟨g, i * 6, none⟩ = some (c.a0 (f i).1) ∧ w.cell? ⟨g, i * 6 + 1, none⟩ = some (c.a1 (f i).1) ∧ w.cell? ⟨g, i * 6 + 2, none⟩ = some (c.a2 (f i).1) ∧ w.cell? ⟨g, i * 6 + 3, none⟩ = some (c.a3 (f i).1) ∧ w.cell? ⟨g, i * 6 + 4, none⟩ = some (c.a4 (f i).1) ∧ w.cell? ⟨g, i * 6 + 5, none⟩ = some (c.a5 (f i).1) := by
 have k : ∀ j, j < 6 → w.cell? ⟨g, i * 6 + j, none⟩ = (c.list (f i).1)[j]? := fun j hj => by
  rw [World.ownsRow.cellAt h (i * 6 + j) (by omega), flat6_get c f hj hi]
 exact ⟨k 0 (by decide), k 1 (by decide), k 2 (by decide), k 3 (by decide), k 4 (by decide), k 5 (by decide)⟩
theorem Own6.frozen {B T g n cap : Nat} {f : Nat → β × Nat} {w : World} (h : Own6 c B T g n cap f w) (o : Nat) : w.frozen? ⟨g, o, none⟩ = false := World.ownsRow.frozenAt h o
theorem Own6.below {B T g n cap : Nat} {f : Nat → β × Nat} {w w' : World} (h : Own6 c B T g n cap f w) (hb : Below w.heap.size w w') : Own6 c B T g n cap f w' := owns_below h hb
theorem own_store (P : Program) {base e size g n cap : Nat} {xs : List Value} {w : World} (h : w.ownsRow base e size (.slice (some ⟨g, 0, none⟩) n cap) n xs) {j : Nat} (hj : j < n * size) (v : Value) (hv : v.oneCell' = true) :
  Sem.run P (store ⟨g, j, none⟩ v) w = .ok () (w.setCell ⟨g, j, none⟩ v) := by
 have h1 := World.ownsRow.cellAt h j hj
 have h2 := World.ownsRow.frozenAt h j
 rw [run_store P w _ v _ hv, h1, List.getElem?_eq_getElem (by rw [h.1]; exact hj)]
 simp only [h2, Bool.false_eq_true, if_false]
/-- an element is written, cell by cell -/
theorem Own6.store6 (P : Program) {B T g n cap : Nat} {f : Nat → β × Nat} {w : World} (h : Own6 c B T g n cap f w) {i : Nat} (hi : i < n) (y : β × Nat) (h1c : ∀ v ∈ c.list y.1, v.oneCell' = true) :
  ∃ V0 V1 V2 V3 V4 V5, Sem.run P (store ⟨g, i * 6, none⟩ (c.a0 y.1)) w = .ok () V0 ∧ Sem.run P (store ⟨g, i * 6 + 1, none⟩ (c.a1 y.1)) V0 = .ok () V1 ∧ Sem.run P (store ⟨g, i * 6 + 2, none⟩ (c.a2 y.1)) V1 = .ok () V2 ∧
   Sem.run P (store ⟨g, i * 6 + 3, none⟩ (c.a3 y.1)) V2 = .ok () V3 ∧ Sem.run P (store ⟨g, i * 6 + 4, none⟩ (c.a4 y.1)) V3 = .ok () V4 ∧ Sem.run P (store ⟨g, i * 6 + 5, none⟩ (c.a5 y.1)) V4 = .ok () V5 ∧
   Own6 c B T g n cap (upd6 f i y) V5 ∧ w.grownBy V5 (some g) := by
 have ho : ∀ v, v ∈ c.list y.1 → v.oneCell' = true := h1c
 obtain ⟨h0, g0⟩ := World.ownsRow.stored h (i * 6) (c.a0 y.1)
 obtain ⟨h1, g1⟩ := World.ownsRow.stored h0 (i * 6 + 1) (c.a1 y.1)
 obtain ⟨h2, g2⟩ := World.ownsRow.stored h1 (i * 6 + 2) (c.a2 y.1)
 obtain ⟨h3, g3⟩ := World.ownsRow.stored h2 (i * 6 + 3) (c.a3 y.1)
 obtain ⟨h4, g4⟩ := World.ownsRow.stored h3 (i * 6 + 4) (c.a4 y.1)
 obtain ⟨h5, g5⟩ := World.ownsRow.stored h4 (i * 6 + 5) (c.a5 y.1)
 rw [flat6_set c f y hi] at h5
 refine ⟨_, _, _, _, _, _, own_store P h (by omega) _ (ho _ (by simp [Six.list])), own_store P h0 (by omega) _ (ho _ (by simp [Six.list])), own_store P h1 (by omega) _ (ho _ (by simp [Six.list])), own_store P h2 (by omega) _ (ho _ (by simp [Six.list])),
  own_store P h3 (by omega) _ (ho _ (by simp [Six.list])), own_store P h4 (by omega) _ (ho _ (by simp [Six.list])), h5, ((((g0.trans g1).trans g2).trans g3).trans g4).trans g5⟩
/-- two elements change places, cell by cell -/
theorem Own6.swap12 (P : Program) {B T g n cap : Nat} {f : Nat → β × Nat} {w : World} (h : Own6 c B T g n cap f w) {x y : Nat} (hx : x < n) (hy : y < n) (h1c : ∀ z, ∀ v ∈ c.list z, v.oneCell' = true) :
  ∃ V0 V1 V2 V3 V4 V5 U0 U1 U2 U3 U4 U5, Sem.run P (store ⟨g, x * 6, none⟩ (c.a0 (f y).1)) w = .ok () V0 ∧ Sem.run P (store ⟨g, x * 6 + 1, none⟩ (c.a1 (f y).1)) V0 = .ok () V1 ∧ Sem.run P (store ⟨g, x * 6 + 2, none⟩ (c.a2 (f y).1)) V1 = .ok () V2 ∧
   Sem.run P (store ⟨g, x * 6 + 3, none⟩ (c.a3 (f y).1)) V2 = .ok () V3 ∧ Sem.run P (store ⟨g, x * 6 + 4, none⟩ (c.a4 (f y).1)) V3 = .ok () V4 ∧ Sem.run P (store ⟨g, x * 6 + 5, none⟩ (c.a5 (f y).1)) V4 = .ok () V5 ∧
   Sem.run P (store ⟨g, y * 6, none⟩ (c.a0 (f x).1)) V5 = .ok () U0 ∧ Sem.run P (store ⟨g, y * 6 + 1, none⟩ (c.a1 (f x).1)) U0 = .ok () U1 ∧ Sem.run P (store ⟨g, y * 6 + 2, none⟩ (c.a2 (f x).1)) U1 = .ok () U2 ∧
   Sem.run P (store ⟨g, y * 6 + 3, none⟩ (c.a3 (f x).1)) U2 = .ok () U3 ∧ Sem.run P (store ⟨g, y * 6 + 4, none⟩ (c.a4 (f x).1)) U3 = .ok () U4 ∧ Sem.run P (store ⟨g, y * 6 + 5, none⟩ (c.a5 (f x).1)) U4 = .ok () U5 ∧
   Own6 c B T g n cap (Stab.swp f x y) U5 ∧ w.grownBy U5 (some g) := by
 obtain ⟨V0, V1, V2, V3, V4, V5, s0, s1, s2, s3, s4, s5, ho, hg⟩ := h.store6 c P hx (f y) (h1c _)
 obtain ⟨U0, U1, U2, U3, U4, U5, t0, t1, t2, t3, t4, t5, ho', hg'⟩ := ho.store6 c P hy (f x) (h1c _)
 rw [swp_upd] at ho'
 exact ⟨V0, V1, V2, V3, V4, V5, U0, U1, U2, U3, U4, U5, s0, s1, s2, s3, s4, s5, t0, t1, t2, t3, t4, t5, ho', hg.trans hg'⟩
end
theorem grown_below {w w' w'' : World} {r : Option Nat} (h : w.grownBy w' r) (hb : Below w'.heap.size w' w'') : w.grownBy w'' r :=
 ⟨hb.os.trans h.os, hb.tape.trans h.tape, hb.output.trans h.output, Nat.le_trans h.size hb.size, fun k h1 h2 => (hb.block k (Nat.lt_of_lt_of_le h1 h.size)).trans (h.block k h1 h2)⟩
theorem grown_same (w : World) (r : Option Nat) : w.grownBy w r := ⟨rfl, rfl, rfl, Nat.le_refl _, fun _ _ _ => rfl⟩
end Go
namespace Go.Proofs.YtbgimpeklblcjaaGreatDoor
open Go.RowKit
section
variable {β : Type} (c : Six β) (B g n cap : Nat) (w0 : World)
def SrRel (f : Nat → β × Nat) (a b N : Nat) (i : Value) (wr : World) : Prop :=
 ∃ k : Nat, k ≤ N ∧ i = .int .i64 (k : Int) ∧ Own6 c B 55 g n cap (Stab.swr f a b k) wr ∧ w0.grownBy wr (some g)
set_option maxRecDepth 100000 in
set_option maxHeartbeats 2000000 in
theorem swapRange_any (f : Nat → β × Nat) (a b N : Nat) (fv : Value) (w : World) (h : Own6 c B 55 g n cap f w) (hg : w0.grownBy w (some g)) (h1 : a + N ≤ b) (h2 : b + N ≤ n) (hn : n ≤ 1000000) (h1c : ∀ x, ∀ v ∈ c.list x, v.oneCell' = true) :
  Calls Tryz.prog 154 #[.slice (some ⟨g, 0, none⟩) n cap, .int .i64 (a : Int), .int .i64 (b : Int), .int .i64 (N : Int), fv] w fun e w' => e = .returned (.tuple #[]) ∧ Own6 c B 55 g n cap (Stab.swr f a b N) w' ∧ w0.grownBy w' (some g) := by
 have HO := Lib.hid h
 have HG := Lib.hid hg
 clear h hg
 go_enter Tryz.func154, Tryz.ntmps154
 go_wp2_with fail
 go_loopw [10] (fun i wr => SrRel c B g n cap w0 f a b N i wr) (fun i _ => N - (intOf i).toNat)
 case atStart => exact ⟨0, Nat.zero_le _, rfl, by rw [Stab.swr_zero]; exact HO.out, HG.out⟩
 case round =>
  obtain ⟨k, hk, rfl, hown, hgr⟩ := hrel
  by_cases hlt : k < N
  ·have hx : a + k < n := by omega
   have hy : b + k < n := by omega
   have hod : Own6 c B 55 g n cap (Stab.swr f a b k) wr.drew := hown.below c (Below.refl _ _).drew
   obtain ⟨X, hX⟩ : ∃ X, (Stab.swr f a b k (a + k)).1 = X := ⟨_, rfl⟩
   obtain ⟨Y, hY⟩ : ∃ Y, (Stab.swr f a b k (b + k)).1 = Y := ⟨_, rfl⟩
   obtain ⟨x0, x1, x2, x3, x4, x5⟩ := hown.cells c hx
   obtain ⟨y0, y1, y2, y3, y4, y5⟩ := hown.cells c hy
   obtain ⟨V0, V1, V2, V3, V4, V5, U0, U1, U2, U3, U4, U5, s0, s1, s2, s3, s4, s5, t0, t1, t2, t3, t4, t5, ho, hg'⟩ := hod.swap12 c Tryz.prog hx hy h1c
   rw [Stab.swr_step f (by omega)] at ho
   rw [hX] at x0 x1 x2 x3 x4 x5 t0 t1 t2 t3 t4 t5
   rw [hY] at y0 y1 y2 y3 y4 y5 s0 s1 s2 s3 s4 s5
   obtain ⟨p, hp⟩ : ∃ p, a + k = p := ⟨_, rfl⟩
   obtain ⟨q, hq⟩ : ∃ q, b + k = q := ⟨_, rfl⟩
   rw [hp] at x0 x1 x2 x3 x4 x5 s0 s1 s2 s3 s4 s5
   rw [hq] at y0 y1 y2 y3 y4 y5 t0 t1 t2 t3 t4 t5
   have ep : (a : Int) + (k : Int) = (p : Int) := by omega
   have eq : (b : Int) + (k : Int) = (q : Int) := by omega
   have i0 : (p : Int) < (n : Int) := by omega
   have i1 : (q : Int) < (n : Int) := by omega
   have HS := Lib.hid ho
   have HT := Lib.hid (Lib.grownBy_trans (grown_below hgr (Below.refl _ _).drew) hg')
   clear hown hod ho hX hY hp hq hgr hg'
   go_wp2_with fail
   go_big_region
   all_goals go_wp2
   all_goals go_roundw
   case rel => exact ⟨k + 1, hlt, by go_num, HS.out, HT.out⟩
   case measure => simp [intOf]; omega
  ·obtain rfl : k = N := by omega
   have HS := Lib.hid hown
   clear hown
   go_wp2_with fail
   go_end0
   exact ⟨rfl, HS.out, hgr⟩
end
end Go.Proofs.YtbgimpeklblcjaaGreatDoor

namespace Go
open Go.RowKit
theorem step_append_ats {P : Program} {ops : Array Oper} {o : Oper} {a : Act} {w : World} {K : Act → World → Prop} {Q : Exit → Act → World → Prop} {E : Prop}
  (hg : o.guard = none) (s x : Operand) (t : TypeId) (hop : o.op = Op.call { callee := Callee.builtin Builtin.append, args := #[s, x], argTypes := #[t, t] })
  (base : Nat) (e : TypeId) (i : TypeInfo) (z : Value) (size bytes : Nat) (ht : P.underlying t = some (.slice e)) (hi : P.info? e = some i) (hz : i.zero = some z)
  (hsize : i.size = size) (hby : i.bytes = bytes) (hzs : z.cells.size = size) (hsz : 0 < size)
  (v : Value) (n : Nat) (xs : List Value) (hs : a.eval s = v) (hown : w.ownsRow base e size v n xs)
  (ad : Addr) (m c : Nat) (news : List Value) (hx : a.eval x = .slice (some ad) m c) (hl : news.length = m * size) (hnews : ∀ j u, news[j]? = some u → w.cell? (ad.add j) = some u) (h1 : ∀ u ∈ news, u.oneCell' = true)
  (h63 : n + m ≤ maxLen) (hbytes : (n + m) * bytes ≤ 140737488355328) (hbase : base ≤ w.heap.size)
  (hK : ∀ v' w', w'.ownsRow base e size v' (n + m) (xs ++ news) → w.grownBy w' v.ownBlock → (v'.ownBlock = v.ownBlock ∨ v'.ownBlock = some w.heap.size) → K (a.put o.dst v') w') :
  if Region.wanted o (yielded ops a.tmps) = true then Oper.wp P o a w K Q else E := by
 have hw : Region.wanted o (yielded ops a.tmps) = true := by simp [Region.wanted, hg]
 rw [if_pos hw]
 obtain ⟨v', w', hr, h2, h3, _, h5⟩ := run_append_own_at (P := P) (w := w) base t o.type e i z size bytes ht hi hz hsize hby hzs hsz v n xs hown ad m c news hl hnews h1 h63 hbytes hbase
 unfold Oper.wp execOp
 simp only [hop, resolve, invoke, builtin, Sem.run_bind, Sem.run_pure, Result.andThen_ok, List.map_toArray, List.map_cons, List.map_nil, hs, hx, hr]
 exact hK v' w' h2 h3 h5
theorem keepS {P : Program} {f : FuncId} {args : Array Value} {v : Value} {S : World → Prop} (hS : ∀ W W', S W → Below W.heap.size W W' → S W') {w : World} (h : S w) (hc : Calls P f args w fun e w' => e = .returned v ∧ Below w.heap.size w w') :
  Calls P f args w fun e w' => e = .returned v ∧ S w' := hc.mono fun _ _ ⟨he, hb⟩ => ⟨he, hS _ _ h hb⟩
theorem cell_on {w w' : World} {b o : Nat} {v : Value} (h : w.cell? ⟨b, o, none⟩ = some v) (hb : Below w.heap.size w w') : w'.cell? ⟨b, o, none⟩ = some v := (hb.cell (p := ⟨b, o, none⟩) (cell_lt h)).trans h
end Go

namespace Go
open Go.RowKit
section
variable {β : Type} (c : Six β)
/-- the cells of two elements -/
def Two6 (g p q : Nat) (X Y : β) (w0 W : World) : Prop :=
 (W.cell? ⟨g, p * 6, none⟩ = some (c.a0 X) ∧ W.cell? ⟨g, p * 6 + 1, none⟩ = some (c.a1 X) ∧ W.cell? ⟨g, p * 6 + 2, none⟩ = some (c.a2 X) ∧ W.cell? ⟨g, p * 6 + 3, none⟩ = some (c.a3 X) ∧ W.cell? ⟨g, p * 6 + 4, none⟩ = some (c.a4 X) ∧ W.cell? ⟨g, p * 6 + 5, none⟩ = some (c.a5 X)) ∧
 (W.cell? ⟨g, q * 6, none⟩ = some (c.a0 Y) ∧ W.cell? ⟨g, q * 6 + 1, none⟩ = some (c.a1 Y) ∧ W.cell? ⟨g, q * 6 + 2, none⟩ = some (c.a2 Y) ∧ W.cell? ⟨g, q * 6 + 3, none⟩ = some (c.a3 Y) ∧ W.cell? ⟨g, q * 6 + 4, none⟩ = some (c.a4 Y) ∧ W.cell? ⟨g, q * 6 + 5, none⟩ = some (c.a5 Y)) ∧ Below w0.heap.size w0 W
theorem Two6.on {g p q : Nat} {X Y : β} {w0 : World} : ∀ W W', Two6 c g p q X Y w0 W → Below W.heap.size W W' → Two6 c g p q X Y w0 W' := fun _ _ ⟨⟨h0, h1, h2, h3, h4, h5⟩, ⟨k0, k1, k2, k3, k4, k5⟩, h6⟩ hb =>
 ⟨⟨cell_on h0 hb, cell_on h1 hb, cell_on h2 hb, cell_on h3 hb, cell_on h4 hb, cell_on h5 hb⟩, ⟨cell_on k0 hb, cell_on k1 hb, cell_on k2 hb, cell_on k3 hb, cell_on k4 hb, cell_on k5 hb⟩, below_then h6 hb⟩
theorem Own6.two {B T g n cap : Nat} {f : Nat → β × Nat} {w : World} (h : Own6 c B T g n cap f w) {p q : Nat} (hp : p < n) (hq : q < n) : Two6 c g p q (f p).1 (f q).1 w w := ⟨h.cells c hp, h.cells c hq, Below.refl _ _⟩
/-- what is asked of a comparison: it tells cf, wherever the rest of memory is as it was -/
def Cmp6 (P : Program) (gf : FuncId) (cb : Array Value) (good : β → Prop) (cf : β → β → Int) (w0 : World) (g : Nat) : Prop :=
 ∀ W, w0.grownBy W (some g) → ∀ x y, good x → good y → Calls P gf (#[c.val x, c.val y] ++ cb) W fun e w' => e = .returned (.int .i64 (cf x y)) ∧ Below W.heap.size W w'
end
namespace Stab
def Inc {β : Type} (a b : Nat) (f : Nat → β × Nat) : Prop := ∀ p q, a ≤ p → p < q → q < b → (f p).2 < (f q).2
theorem good_perm {β : Type} {good : β → Prop} {a b n : Nat} {f g : Nat → β × Nat} (hp : Perm a b f g) (hb : b ≤ n) (h : ∀ t, t < n → good (f t).1) : ∀ t, t < n → good (g t).1 := fun t ht => by
 by_cases h1 : t < a ∨ b ≤ t
 ·rw [hp.out h1]; exact h t ht
 ·obtain ⟨j, _, j2, e⟩ := hp.mem (i := t) (by omega) (by omega)
  rw [e]; exact h j (by omega)
end Stab
end Go
namespace Go.Proofs.YtbgimpeklblcjaaGreatDoor
open Go.RowKit
section
variable {β : Type} (c : Six β) (B g n cap : Nat) (w0 : World)
def RoRel6 (f : Nat → β × Nat) (a m b : Nat) (i j : Value) (wr : World) : Prop :=
 ∃ (x y : Nat) (k : Nat → β × Nat), 0 < x ∧ 0 < y ∧ x ≤ m - a ∧ y ≤ b - m ∧ i = .int .i64 (x : Int) ∧ j = .int .i64 (y : Int) ∧ Stab.rot k m x y = Stab.rot f m (m - a) (b - m) ∧ Own6 c B 55 g n cap k wr ∧ w0.grownBy wr (some g)
set_option maxRecDepth 100000 in
set_option maxHeartbeats 2000000 in
theorem rotate_any (f : Nat → β × Nat) (a m b : Nat) (fv : Value) (w : World) (h : Own6 c B 55 g n cap f w) (hg : w0.grownBy w (some g)) (h1 : a < m) (h2 : m < b) (h3 : b ≤ n) (hn : n ≤ 1000000) (h1c : ∀ x, ∀ v ∈ c.list x, v.oneCell' = true) :
  Calls Tryz.prog 125 #[.slice (some ⟨g, 0, none⟩) n cap, .int .i64 (a : Int), .int .i64 (m : Int), .int .i64 (b : Int), fv] w fun e w' => e = .returned (.tuple #[]) ∧ Own6 c B 55 g n cap (Stab.rot f m (m - a) (b - m)) w' ∧ w0.grownBy w' (some g) := by
 have HO := Lib.hid h
 have HG := Lib.hid hg
 have H1 := Lib.hid h1c
 obtain ⟨x0, hx0⟩ : ∃ x, m - a = x := ⟨_, rfl⟩
 obtain ⟨y0, hy0⟩ : ∃ y, b - m = y := ⟨_, rfl⟩
 have ex : (m : Int) - (a : Int) = (x0 : Int) := by omega
 have ey : (b : Int) - (m : Int) = (y0 : Int) := by omega
 have HX := Lib.hid hx0
 have HY := Lib.hid hy0
 clear h hg h1c hx0 hy0
 go_enter Tryz.func125, Tryz.ntmps125
 go_wp2_with fail
 go_loopw [10, 11] (fun i j wr => RoRel6 c B g n cap w0 f a m b i j wr) (fun i j _ => (intOf i).toNat + (intOf j).toNat)
 case atStart => exact ⟨x0, y0, f, by have := HX.out; omega, by have := HY.out; omega, by rw [HX.out]; exact Nat.le_refl _, by rw [HY.out]; exact Nat.le_refl _, rfl, rfl, by rw [HX.out, HY.out], HO.out, HG.out⟩
 case round =>
  obtain ⟨x, y, k, hx, hy, hxm, hyb, rfl, rfl, hk, hown, hgr⟩ := hrel
  obtain ⟨z, hz⟩ : ∃ z, m - x = z := ⟨_, rfl⟩
  have ez : (m : Int) - (x : Int) = (z : Int) := by omega
  have HK := Lib.hid hk
  clear hk
  by_cases hne : x = y
  ·subst hne
   have q1 : ((x : Int) != (x : Int)) = false := by simp
   have q1' : (x != x) = false := by simp
   have HS := Lib.hid (swapRange_any c B g n cap w0 k z m x fv wr hown hgr (by omega) (by omega) hn H1.out)
   have HE : Hid (Stab.swr k z m x = Stab.rot f m (m - a) (b - m)) := by
    show _ = _
    rw [← hz, Stab.rot_same k (by omega), HK.out]
   clear hown hgr hz
   go_wp2_with fail
   refine HS.out.mono ?_
   rintro e w1 ⟨rfl, ho1, hg1⟩
   rw [HE.out] at ho1
   have HO1 := Lib.hid ho1
   clear ho1
   go_wp2_with fail
   go_end0
   exact ⟨rfl, HO1.out, hg1⟩
  have q1 : ((x : Int) != (y : Int)) = true := by rw [bne_iff_ne]; omega
  have q1' : (x != y) = true := by rw [bne_iff_ne]; exact hne
  by_cases hgt : y < x
  ·have q2 : decide ((y : Int) < (x : Int)) = true := decide_eq_true (by omega)
   have q2' : decide (y < x) = true := decide_eq_true hgt
   obtain ⟨u, hu⟩ : ∃ u, x - y = u := ⟨_, rfl⟩
   have eu : (x : Int) - (y : Int) = (u : Int) := by omega
   have HS := Lib.hid (swapRange_any c B g n cap w0 k z m y fv wr hown hgr (by omega) (by omega) hn H1.out)
   have HE : Hid (Stab.rot (Stab.swr k z m y) m u y = Stab.rot f m (m - a) (b - m)) := by
    show _ = _
    rw [← hz, ← hu, ← Stab.rot_great k (by omega) hgt, HK.out]
   have hu0 : 0 < u := by omega
   have hum : u ≤ m - a := by omega
   have hux : u < x := by omega
   clear hown hgr hz hu hne
   go_wp2_with fail
   refine HS.out.mono ?_
   rintro e w1 ⟨rfl, ho1, hg1⟩
   have HO1 := Lib.hid ho1
   clear ho1
   go_wp2_with fail
   go_roundw
   case rel => exact ⟨u, y, _, hu0, hy, hum, hyb, rfl, rfl, HE.out, HO1.out, hg1⟩
   case measure => simp [intOf]; omega
  have q2 : decide ((y : Int) < (x : Int)) = false := decide_eq_false (by omega)
  have q2' : decide (y < x) = false := decide_eq_false hgt
  obtain ⟨u, hu⟩ : ∃ u, y - x = u := ⟨_, rfl⟩
  have eu : (y : Int) - (x : Int) = (u : Int) := by omega
  obtain ⟨s, hs⟩ : ∃ s, m + y = s := ⟨_, rfl⟩
  have es : (m : Int) + (y : Int) = (s : Int) := by omega
  obtain ⟨t, ht⟩ : ∃ t, s - x = t := ⟨_, rfl⟩
  have et : (s : Int) - (x : Int) = (t : Int) := by omega
  have HS := Lib.hid (swapRange_any c B g n cap w0 k z t x fv wr hown hgr (by omega) (by omega) hn H1.out)
  have HE : Hid (Stab.rot (Stab.swr k z t x) m x u = Stab.rot f m (m - a) (b - m)) := by
   show _ = _
   rw [← hz, ← hu, ← ht, ← hs, ← Stab.rot_less k (by omega) (by omega), HK.out]
  have hu0 : 0 < u := by omega
  have hum : u ≤ b - m := by omega
  have hux : u < y := by omega
  clear hown hgr hz hu hne hs ht
  go_wp2_with fail
  refine HS.out.mono ?_
  rintro e w1 ⟨rfl, ho1, hg1⟩
  have HO1 := Lib.hid ho1
  clear ho1
  go_wp2_with fail
  go_roundw
  case rel => exact ⟨x, u, _, hx, hu0, hxm, hum, rfl, rfl, HE.out, HO1.out, hg1⟩
  case measure => simp [intOf]; omega
def InOut (f : Nat → β × Nat) (cf : β → β → Int) (a b : Nat) (i : Value) (wr : World) : Prop :=
 ∃ (x : Nat) (k : Nat → β × Nat), a < x ∧ x ≤ b + 1 ∧ i = .int .i64 (x : Int) ∧ Stab.Perm a (min x b) f k ∧ Stab.Srt cf a (min x b) k ∧ Own6 c B 55 g n cap k wr ∧ w0.grownBy wr (some g)
def InIn (f : Nat → β × Nat) (cf : β → β → Int) (a x : Nat) (j : Value) (wr : World) : Prop :=
 ∃ (y : Nat) (k : Nat → β × Nat), a ≤ y ∧ y ≤ x ∧ j = .int .i64 (y : Int) ∧ Stab.Perm a (x + 1) f k ∧ Stab.Hole cf a x y k ∧ k y = f x ∧ (∀ t, a ≤ t → t ≤ x → t ≠ y → (k t).2 < (f x).2) ∧ Own6 c B 55 g n cap k wr ∧ w0.grownBy wr (some g)
set_option maxRecDepth 100000 in
set_option maxHeartbeats 4000000 in
theorem insertion_any (good : β → Prop) (cf : β → β → Int) (ho : OrdG cf) (gf : FuncId) (cb : Array Value) (eg : ∀ args w, (callFunc gf args).run Tryz.prog w = .ok (.enter gf args) w) (hcm : Cmp6 c Tryz.prog gf cb good cf w0 g)
  (f : Nat → β × Nat) (a b : Nat) (w : World) (h : Own6 c B 55 g n cap f w) (hg : w0.grownBy w (some g)) (h1 : a ≤ b) (h3 : b ≤ n) (hn : n ≤ 1000000) (h1c : ∀ x, ∀ v ∈ c.list x, v.oneCell' = true)
  (hgd : ∀ t, t < n → good (f t).1) (hinc : Stab.Inc a b f) :
  Calls Tryz.prog 94 #[.slice (some ⟨g, 0, none⟩) n cap, .int .i64 (a : Int), .int .i64 (b : Int), .func (.func gf) #[] cb] w fun e w' => e = .returned (.tuple #[]) ∧ (∃ k, Stab.Perm a b f k ∧ Stab.Srt cf a b k ∧ Own6 c B 55 g n cap k w') ∧ w0.grownBy w' (some g) := by
 have HO := Lib.hid h
 have HG := Lib.hid hg
 have H1 := Lib.hid h1c
 have HCM := Lib.hid hcm
 have HGd := Lib.hid hgd
 have HInc := Lib.hid hinc
 clear h hg h1c hcm hgd hinc
 go_enter Tryz.func94, Tryz.ntmps94
 go_wp2_with fail
 go_loopw [8] (fun i wr => InOut c B g n cap w0 f cf a b i wr) (fun i _ => b + 1 - (intOf i).toNat)
 case atStart => exact ⟨a + 1, f, by omega, by omega, by go_num, Stab.Perm.refl _ _ _, fun i j p q r => by omega, HO.out, HG.out⟩
 case round =>
  obtain ⟨x, k, hax, hxb, rfl, hpm, hsr, hown, hgr⟩ := hrel
  by_cases hlt : x < b
  ·have q1 : decide ((x : Int) < (b : Int)) = true := decide_eq_true (by omega)
   have q1' : decide (x < b) = true := decide_eq_true hlt
   rw [Nat.min_eq_left (Nat.le_of_lt hlt)] at hpm hsr
   have HP := Lib.hid hpm
   have HSr := Lib.hid hsr
   have HOw := Lib.hid hown
   clear hpm hsr hown
   go_wp2_with fail
   go_loopw [9] (fun j wr => InIn c B g n cap w0 f cf a x j wr) (fun j _ => (intOf j).toNat)
   case atStart => exact ⟨x, k, by omega, Nat.le_refl _, rfl, HP.out.mono (Nat.le_refl _) (by omega), Stab.hole_start HSr.out, HP.out.out (.inr (Nat.le_refl _)), fun t t1 t2 t3 => by
     obtain ⟨t', u1, u2, e⟩ := HP.out.mem t1 (show t < x by omega)
     rw [e]; exact HInc.out t' x u1 u2 hlt, HOw.out, hgr⟩
   case round =>
    obtain ⟨j, k2, haj, hjx, rfl, hpm2, hho, hkj, hid, hown2, hgr2⟩ := hrel
    have HP2 := Lib.hid hpm2
    have HHo := Lib.hid hho
    have HKj := Lib.hid hkj
    have HId := Lib.hid hid
    have HO2 := Lib.hid hown2
    have hdr := grown_below hgr2 (Below.refl _ _).drew
    clear hpm2 hho hkj hid hown2
    by_cases hja : j = a
    ·have q2 : decide ((a : Int) < (j : Int)) = false := decide_eq_false (by omega)
     have q2' : decide (a < j) = false := decide_eq_false (by omega)
     have HEnd := Lib.hid (Stab.hole_end ho HHo.out hjx (.inl (by omega)))
     have hja2 : j ≤ a := by omega
     clear hja
     go_wp2_with fail
     refine wp_region_held_drew (S := (fun W => Below wr.drew.heap.size wr.drew W)) (by kernel_rfl) (Below.refl _ _) (fun hHeld => ?_)
     refine wpAnyH_take (i := 0) (v := ?_) rfl (by kernel_rfl) (by kernel_rfl) (by kernel_rfl) (fun _ _ _ h => h) (Or.inl ⟨by kernel_rfl, ?_⟩) hHeld ?_
     rotate_left
     ·(intro W hSw; (try dsimp only at hSw); go_simp; (try with_reducible rfl))
     (try simp only [Act.put, putL])
     refine wpAnyH_take (i := 1) (v := ?_) rfl (by kernel_rfl) (by kernel_rfl) (by kernel_rfl) (fun _ _ _ h => h) (Or.inl ⟨by kernel_rfl, ?_⟩) hHeld ?_
     rotate_left
     ·(intro W hSw; (try dsimp only at hSw); go_simp; (try with_reducible rfl))
     (try simp only [Act.put, putL])
     refine wpAnyH_take (i := 2) (v := ?_) rfl (by kernel_rfl) (by kernel_rfl) (by kernel_rfl) (fun _ _ _ h => h) (Or.inl ⟨by kernel_rfl, ?_⟩) hHeld ?_
     rotate_left
     ·(intro W hSw; (try dsimp only at hSw); go_simp; (try with_reducible rfl))
     (try simp only [Act.put, putL])
     refine wpAnyH_take (i := 3) (v := ?_) rfl (by kernel_rfl) (by kernel_rfl) (by kernel_rfl) (fun _ _ _ h => h) (Or.inl ⟨by kernel_rfl, ?_⟩) hHeld ?_
     rotate_left
     ·(intro W hSw; (try dsimp only at hSw); go_simp; (try with_reducible rfl))
     (try simp only [Act.put, putL])
     refine wpAnyH_take (i := 4) (v := undef) rfl (by kernel_rfl) (by kernel_rfl) (by kernel_rfl) (fun _ _ _ h => h) (Or.inr ⟨by kernel_rfl, rfl⟩) hHeld ?_
     (try simp only [Act.put, putL])
     refine wpAnyH_take (i := 5) (v := undef) rfl (by kernel_rfl) (by kernel_rfl) (by kernel_rfl) (fun _ _ _ h => h) (Or.inr ⟨by kernel_rfl, rfl⟩) hHeld ?_
     (try simp only [Act.put, putL])
     refine wpAnyH_take (i := 6) (v := undef) rfl (by kernel_rfl) (by kernel_rfl) (by kernel_rfl) (fun _ _ _ h => h) (Or.inr ⟨by kernel_rfl, rfl⟩) hHeld ?_
     (try simp only [Act.put, putL])
     refine wpAnyH_take (i := 7) (v := undef) rfl (by kernel_rfl) (by kernel_rfl) (by kernel_rfl) (fun _ _ _ h => h) (Or.inr ⟨by kernel_rfl, rfl⟩) hHeld ?_
     (try simp only [Act.put, putL])
     refine wpAnyH_take (i := 8) (v := undef) rfl (by kernel_rfl) (by kernel_rfl) (by kernel_rfl) (fun _ _ _ h => h) (Or.inr ⟨by kernel_rfl, rfl⟩) hHeld ?_
     (try simp only [Act.put, putL])
     refine wpAnyH_take (i := 9) (v := undef) rfl (by kernel_rfl) (by kernel_rfl) (by kernel_rfl) (fun _ _ _ h => h) (Or.inr ⟨by kernel_rfl, rfl⟩) hHeld ?_
     (try simp only [Act.put, putL])
     refine wpAnyH_take (i := 10) (v := undef) rfl (by kernel_rfl) (by kernel_rfl) (by kernel_rfl) (fun _ _ _ h => h) (Or.inr ⟨by kernel_rfl, rfl⟩) hHeld ?_
     (try simp only [Act.put, putL])
     refine wpAnyH_take (i := 11) (v := undef) rfl (by kernel_rfl) (by kernel_rfl) (by kernel_rfl) (fun _ _ _ h => h) (Or.inr ⟨by kernel_rfl, rfl⟩) hHeld ?_
     (try simp only [Act.put, putL])
     refine wpAnyH_take (i := 12) (v := undef) rfl (by kernel_rfl) (by kernel_rfl) (by kernel_rfl) (fun _ _ _ h => h) (Or.inr ⟨by kernel_rfl, rfl⟩) hHeld ?_
     (try simp only [Act.put, putL])
     refine wpAnyH_take (i := 13) (v := undef) rfl (by kernel_rfl) (by kernel_rfl) (by kernel_rfl) (fun _ _ _ h => h) (Or.inr ⟨by kernel_rfl, rfl⟩) hHeld ?_
     (try simp only [Act.put, putL])
     refine wpAnyH_take (i := 14) (v := undef) rfl (by kernel_rfl) (by kernel_rfl) (by kernel_rfl) (fun _ _ _ h => h) (Or.inr ⟨by kernel_rfl, rfl⟩) hHeld ?_
     (try simp only [Act.put, putL])
     refine wpAnyH_take (i := 15) (v := undef) rfl (by kernel_rfl) (by kernel_rfl) (by kernel_rfl) (fun _ _ _ h => h) (Or.inr ⟨by kernel_rfl, rfl⟩) hHeld ?_
     (try simp only [Act.put, putL])
     refine wpAnyH_take (i := 16) (v := ?_) rfl (by kernel_rfl) (by kernel_rfl) (by kernel_rfl) (fun _ _ _ h => h) (Or.inl ⟨by kernel_rfl, ?_⟩) hHeld ?_
     rotate_left
     ·(intro W hSw; (try dsimp only at hSw); go_simp; (try with_reducible rfl))
     (try simp only [Act.put, putL])
     refine wpAnyH_done (by kernel_rfl) ?_ _
     have hgF := grown_below hdr hHeld
     have hoF : Own6 c B 55 g n cap k2 wr.drew := HO2.out.below c (Below.refl _ _).drew
     have HOF := Lib.hid (hoF.below c hHeld)
     clear hHeld hoF
     go_wp2_with fail
     go_roundw
     case rel => exact ⟨x + 1, k2, by omega, by omega, by go_num, by rw [Nat.min_eq_left hlt]; exact HP2.out, by rw [Nat.min_eq_left hlt]; exact HEnd.out, HOF.out, hgF⟩
     case measure => simp [intOf]; omega
    have q2 : decide ((a : Int) < (j : Int)) = true := decide_eq_true (by omega)
    have q2' : decide (a < j) = true := decide_eq_true (by omega)
    obtain ⟨z, hz⟩ : ∃ z, j - 1 = z := ⟨_, rfl⟩
    have ez : (j : Int) - 1 = (z : Int) := by omega
    have ew : IntKind.i64.wrap (z : Int) = (z : Int) := by rw [IntKind.wrap_i64]; omega
    have i0 : (0 : Int) ≤ (j : Int) := by omega
    have i1 : (j : Int) < (n : Int) := by omega
    have i2 : (0 : Int) ≤ (z : Int) := by omega
    have i3 : (z : Int) < (n : Int) := by omega
    have hjn : j < n := by omega
    have haj2 : a < j := by omega
    have hzn : z < n := by omega
    have hod : Own6 c B 55 g n cap k2 wr.drew := HO2.out.below c (Below.refl _ _).drew
    have hst := hod.two c hjn hzn
    have hgk := Stab.good_perm HP2.out (show x + 1 ≤ n by omega) HGd.out
    have hgj := hgk j hjn
    have hgz := hgk z hzn
    have hidz : (k2 z).2 < (k2 j).2 := by
     rw [HKj.out]; exact HId.out z (by omega) (by omega) (by omega)
    obtain ⟨X, hX⟩ : ∃ X, (k2 j).1 = X := ⟨_, rfl⟩
    obtain ⟨Y, hY⟩ : ∃ Y, (k2 z).1 = Y := ⟨_, rfl⟩
    obtain ⟨r, hr⟩ : ∃ r, cf X Y = r := ⟨_, rfl⟩
    rw [hX, hY] at hst
    rw [hX] at hgj
    rw [hY] at hgz
    have HCm : Hid (∀ W, Below wr.drew.heap.size wr.drew W → Calls Tryz.prog gf (#[c.val X, c.val Y] ++ cb) W fun e w' => e = .returned (.int .i64 r) ∧ Below W.heap.size W w') := fun W hW => by
     rw [← hr]; exact HCM.out W (grown_below hdr hW) X Y hgj hgz
    have HX := Lib.hid hX
    have HY := Lib.hid hY
    have HR := Lib.hid hr
    have HZ := Lib.hid hz
    have HOd := Lib.hid hod
    have HIz := Lib.hid hidz
    clear hja hod hX hY hr hgk hz hidz
    obtain ⟨lb, hlb⟩ : ∃ lb, decide (r < 0) = lb := ⟨_, rfl⟩
    go_wp2_with fail
    refine wp_region_held_drew (S := (fun W => Two6 c g j z X Y wr.drew W)) (by kernel_rfl) (hst) (fun hHeld => ?_)
    refine wpAnyH_take (i := 0) (v := ?_) rfl (by kernel_rfl) (by kernel_rfl) (by kernel_rfl) (fun _ _ _ h => h) (Or.inl ⟨by kernel_rfl, ?_⟩) hHeld ?_
    rotate_left
    ·(rintro W ⟨⟨e0, e1, e2, e3, e4, e5⟩, ⟨f0, f1, f2, f3, f4, f5⟩, _⟩; go_simp; (try with_reducible rfl))
    (try simp only [Act.put, putL])
    refine wpAnyH_take (i := 1) (v := ?_) rfl (by kernel_rfl) (by kernel_rfl) (by kernel_rfl) (fun _ _ _ h => h) (Or.inl ⟨by kernel_rfl, ?_⟩) hHeld ?_
    rotate_left
    ·(rintro W ⟨⟨e0, e1, e2, e3, e4, e5⟩, ⟨f0, f1, f2, f3, f4, f5⟩, _⟩; go_simp; (try with_reducible rfl))
    (try simp only [Act.put, putL])
    refine wpAnyH_take (i := 2) (v := ?_) rfl (by kernel_rfl) (by kernel_rfl) (by kernel_rfl) (fun _ _ _ h => h) (Or.inl ⟨by kernel_rfl, ?_⟩) hHeld ?_
    rotate_left
    ·(rintro W ⟨⟨e0, e1, e2, e3, e4, e5⟩, ⟨f0, f1, f2, f3, f4, f5⟩, _⟩; go_simp; (try with_reducible rfl))
    (try simp only [Act.put, putL])
    refine wpAnyH_take (i := 3) (v := ?_) rfl (by kernel_rfl) (by kernel_rfl) (by kernel_rfl) (fun _ _ _ h => h) (Or.inl ⟨by kernel_rfl, ?_⟩) hHeld ?_
    rotate_left
    ·(rintro W ⟨⟨e0, e1, e2, e3, e4, e5⟩, ⟨f0, f1, f2, f3, f4, f5⟩, _⟩; go_simp; (try with_reducible rfl))
    (try simp only [Act.put, putL])
    refine wpAnyH_take (i := 4) (v := ?_) rfl (by kernel_rfl) (by kernel_rfl) (by kernel_rfl) (fun _ _ _ h => h) (Or.inl ⟨by kernel_rfl, ?_⟩) hHeld ?_
    rotate_left
    ·(rintro W ⟨⟨e0, e1, e2, e3, e4, e5⟩, ⟨f0, f1, f2, f3, f4, f5⟩, _⟩; go_simp; (try with_reducible rfl))
    (try simp only [Act.put, putL])
    refine wpAnyH_take (i := 5) (v := ?_) rfl (by kernel_rfl) (by kernel_rfl) (by kernel_rfl) (fun _ _ _ h => h) (Or.inl ⟨by kernel_rfl, ?_⟩) hHeld ?_
    rotate_left
    ·(rintro W ⟨⟨e0, e1, e2, e3, e4, e5⟩, ⟨f0, f1, f2, f3, f4, f5⟩, _⟩; go_simp; (try with_reducible rfl))
    (try simp only [Act.put, putL])
    refine wpAnyH_take (i := 6) (v := ?_) rfl (by kernel_rfl) (by kernel_rfl) (by kernel_rfl) (fun _ _ _ h => h) (Or.inl ⟨by kernel_rfl, ?_⟩) hHeld ?_
    rotate_left
    ·(rintro W ⟨⟨e0, e1, e2, e3, e4, e5⟩, ⟨f0, f1, f2, f3, f4, f5⟩, _⟩; go_simp; (try with_reducible rfl))
    (try simp only [Act.put, putL])
    refine wpAnyH_take (i := 7) (v := ?_) rfl (by kernel_rfl) (by kernel_rfl) (by kernel_rfl) (fun _ _ _ h => h) (Or.inl ⟨by kernel_rfl, ?_⟩) hHeld ?_
    rotate_left
    ·(rintro W ⟨⟨e0, e1, e2, e3, e4, e5⟩, ⟨f0, f1, f2, f3, f4, f5⟩, _⟩; go_simp; (try with_reducible rfl))
    (try simp only [Act.put, putL])
    refine wpAnyH_take (i := 8) (v := ?_) rfl (by kernel_rfl) (by kernel_rfl) (by kernel_rfl) (fun _ _ _ h => h) (Or.inl ⟨by kernel_rfl, ?_⟩) hHeld ?_
    rotate_left
    ·(rintro W ⟨⟨e0, e1, e2, e3, e4, e5⟩, ⟨f0, f1, f2, f3, f4, f5⟩, _⟩; go_simp; (try with_reducible rfl))
    (try simp only [Act.put, putL])
    refine wpAnyH_take (i := 9) (v := ?_) rfl (by kernel_rfl) (by kernel_rfl) (by kernel_rfl) (fun _ _ _ h => h) (Or.inl ⟨by kernel_rfl, ?_⟩) hHeld ?_
    rotate_left
    ·(rintro W ⟨⟨e0, e1, e2, e3, e4, e5⟩, ⟨f0, f1, f2, f3, f4, f5⟩, _⟩; go_simp; (try with_reducible rfl))
    (try simp only [Act.put, putL])
    refine wpAnyH_take (i := 10) (v := ?_) rfl (by kernel_rfl) (by kernel_rfl) (by kernel_rfl) (fun _ _ _ h => h) (Or.inl ⟨by kernel_rfl, ?_⟩) hHeld ?_
    rotate_left
    ·(rintro W ⟨⟨e0, e1, e2, e3, e4, e5⟩, ⟨f0, f1, f2, f3, f4, f5⟩, _⟩; go_simp; (try with_reducible rfl))
    (try simp only [Act.put, putL])
    refine wpAnyH_take (i := 11) (v := ?_) rfl (by kernel_rfl) (by kernel_rfl) (by kernel_rfl) (fun _ _ _ h => h) (Or.inl ⟨by kernel_rfl, ?_⟩) hHeld ?_
    rotate_left
    ·(rintro W ⟨⟨e0, e1, e2, e3, e4, e5⟩, ⟨f0, f1, f2, f3, f4, f5⟩, _⟩; go_simp; (try with_reducible rfl))
    (try simp only [Act.put, putL])
    refine wpAnyH_take (i := 12) (v := ?_) rfl (by kernel_rfl) (by kernel_rfl) (by kernel_rfl) (fun _ _ _ h => h) (Or.inl ⟨by kernel_rfl, ?_⟩) hHeld ?_
    rotate_left
    ·(rintro W ⟨⟨e0, e1, e2, e3, e4, e5⟩, ⟨f0, f1, f2, f3, f4, f5⟩, _⟩; go_simp; (try with_reducible rfl))
    (try simp only [Act.put, putL])
    refine wpAnyH_take (i := 13) (v := ?_) rfl (by kernel_rfl) (by kernel_rfl) (by kernel_rfl) (fun _ _ _ h => h) (Or.inl ⟨by kernel_rfl, ?_⟩) hHeld ?_
    rotate_left
    ·(rintro W ⟨⟨e0, e1, e2, e3, e4, e5⟩, ⟨f0, f1, f2, f3, f4, f5⟩, _⟩; go_simp; (try with_reducible rfl))
    (try simp only [Act.put, putL])
    refine wpAnyH_ready (rs := [14]) (by kernel_rfl) (by simp) ?_
    refine AllReadyH.cons rfl (fun K hK => ?_) AllReadyH.nil
    go_simp
    refine (keepS (Two6.on c) hHeld (HCm.out _ hHeld.2.2)).mono ?_
    rintro e w5 ⟨rfl, hk5⟩
    refine hK.out _ _ (hk5) (fun hHeld => ?_)
    clear hK K
    (try simp only [Act.put, putL])
    refine wpAnyH_take (i := 15) (v := ?_) rfl (by kernel_rfl) (by kernel_rfl) (by kernel_rfl) (fun _ _ _ h => h) (Or.inl ⟨by kernel_rfl, ?_⟩) hHeld ?_
    rotate_left
    ·(rintro W ⟨⟨e0, e1, e2, e3, e4, e5⟩, ⟨f0, f1, f2, f3, f4, f5⟩, _⟩; go_simp; (try with_reducible rfl))
    (try simp only [Act.put, putL])
    refine wpAnyH_take (i := 16) (v := ?_) rfl (by kernel_rfl) (by kernel_rfl) (by kernel_rfl) (fun _ _ _ h => h) (Or.inl ⟨by kernel_rfl, ?_⟩) hHeld ?_
    rotate_left
    ·(rintro W ⟨⟨e0, e1, e2, e3, e4, e5⟩, ⟨f0, f1, f2, f3, f4, f5⟩, _⟩; go_simp; (try with_reducible rfl))
    (try simp only [Act.put, putL])
    refine wpAnyH_done (by kernel_rfl) ?_ _
    have hgF := grown_below hdr hHeld.2.2
    have HOF := Lib.hid (HOd.out.below c hHeld.2.2)
    clear hHeld hst
    have HLb := Lib.hid hlb
    clear hlb
    cases lb
    rotate_left
    ·have hr0 : r < 0 := of_decide_eq_true HLb.out
     have hod5 : Own6 c B 55 g n cap k2 w5.drew := HOF.out.below c (Below.refl _ _).drew
     obtain ⟨V0, V1, V2, V3, V4, V5, U0, U1, U2, U3, U4, U5, s0, s1, s2, s3, s4, s5, t0, t1, t2, t3, t4, t5, ho5, hg5⟩ := hod5.swap12 c Tryz.prog hjn hzn H1.out
     obtain ⟨x0, x1, x2, x3, x4, x5⟩ := HOF.out.cells c hjn
     obtain ⟨y0, y1, y2, y3, y4, y5⟩ := HOF.out.cells c hzn
     rw [HX.out] at x0 x1 x2 x3 x4 x5 t0 t1 t2 t3 t4 t5
     rw [HY.out] at y0 y1 y2 y3 y4 y5 s0 s1 s2 s3 s4 s5
     have hl : Stab.lt cf (k2 j) (k2 z) := (Stab.lt_back HIz.out).2 (by rw [HX.out, HY.out, HR.out]; exact hr0)
     have HHo2 : Hid (Stab.Hole cf a x z (Stab.swp k2 j z)) := by
      have := Stab.hole_step HHo.out (by omega) hjx (by rw [HZ.out]; exact hl)
      rw [HZ.out] at this; exact this
     have HP3 := Lib.hid (HP2.out.trans (Stab.perm_swp k2 (show a ≤ j by omega) (show j < x + 1 by omega) (show a ≤ z by have := HZ.out; omega) (show z < x + 1 by have := HZ.out; omega)))
     have hzj : z ≠ j := by have := HZ.out; omega
     have HKj2 : Hid (Stab.swp k2 j z z = f x) := by
      show _ = _
      unfold Stab.swp
      rw [if_neg hzj, if_pos rfl]; exact HKj.out
     have HId2 : Hid (∀ t, a ≤ t → t ≤ x → t ≠ z → (Stab.swp k2 j z t).2 < (f x).2) := by
      show ∀ _, _
      intro t h1 h2 h3
      unfold Stab.swp
      by_cases htj : t = j
      ·rw [if_pos htj]; exact HId.out z (by have := HZ.out; omega) (by have := HZ.out; omega) hzj
      ·rw [if_neg htj, if_neg h3]; exact HId.out t h1 h2 htj
     have HO5 := Lib.hid ho5
     have hgF2 := Lib.grownBy_trans (grown_below hgF (Below.refl _ _).drew) hg5
     have hza : a ≤ z := by have := HZ.out; omega
     have hzx : z ≤ x := by have := HZ.out; omega
     have hzj2 : z < j := by have := HZ.out; omega
     clear hod5 ho5 hg5 hgF hl hr0 hzj
     go_wp2_with fail
     go_big_region
     all_goals go_wp2
     all_goals go_roundw
     case rel => exact ⟨z, _, hza, hzx, rfl, HP3.out, HHo2.out, HKj2.out, HId2.out, HO5.out, hgF2⟩
     case measure => simp [intOf]; omega
    ·have hr0 : ¬ r < 0 := of_decide_eq_false HLb.out
     have hl : Stab.lt cf (k2 z) (k2 j) := Stab.lt_not ho HIz.out (by rw [HX.out, HY.out, HR.out]; exact hr0)
     have HEnd := Lib.hid (Stab.hole_end ho HHo.out hjx (.inr (by rw [HZ.out]; exact hl)))
     clear hl hr0
     go_wp2_with fail
     go_roundw
     case rel => exact ⟨x + 1, k2, by omega, by omega, by go_num, by rw [Nat.min_eq_left hlt]; exact HP2.out, by rw [Nat.min_eq_left hlt]; exact HEnd.out, HOF.out, hgF⟩
     case measure => simp [intOf]; omega
  ·have q1 : decide ((x : Int) < (b : Int)) = false := decide_eq_false (by omega)
   have q1' : decide (x < b) = false := decide_eq_false hlt
   rw [Nat.min_eq_right (by omega)] at hpm hsr
   have HS := Lib.hid (show ∃ k, Stab.Perm a b f k ∧ Stab.Srt cf a b k ∧ Own6 c B 55 g n cap k wr from ⟨k, hpm, hsr, hown⟩)
   clear hlt hpm hsr hown
   go_wp2_with fail
   go_end0
   exact ⟨rfl, HS.out, hgr⟩
end
end Go.Proofs.YtbgimpeklblcjaaGreatDoor

namespace Go.Proofs.YtbgimpeklblcjaaGreatDoor
open Go.RowKit
section
variable {β : Type} (c : Six β) (B g n cap : Nat) (w0 : World)
def SkRel (cf : β → β → Int) (lo hi : Nat) (f : Nat → β × Nat) (x : β × Nat) (i j : Value) (wr : World) : Prop :=
 ∃ k l : Nat, i = .int .i64 (k : Int) ∧ j = .int .i64 (l : Int) ∧ Stab.Seek cf lo hi f x k l ∧ Own6 c B 55 g n cap f wr ∧ w0.grownBy wr (some g)
def UpRel (f : Nat → β × Nat) (a N : Nat) (i : Value) (wr : World) : Prop :=
 ∃ t p : Nat, t ≤ N ∧ a + t = p ∧ i = .int .i64 (p : Int) ∧ Own6 c B 55 g n cap (Stab.rot f (a + 1) 1 t) wr ∧ w0.grownBy wr (some g)
def DnRel (f : Nat → β × Nat) (m N : Nat) (i : Value) (wr : World) : Prop :=
 ∃ t p : Nat, t ≤ N ∧ p + t = m ∧ i = .int .i64 (p : Int) ∧ Own6 c B 55 g n cap (Stab.rot f m t 1) wr ∧ w0.grownBy wr (some g)
set_option maxRecDepth 100000 in
set_option maxHeartbeats 4000000 in
theorem symA (good : β → Prop) (cf : β → β → Int) (ho : OrdG cf) (gf : FuncId) (cb : Array Value) (eg : ∀ args w, (callFunc gf args).run Tryz.prog w = .ok (.enter gf args) w) (hcm : Cmp6 c Tryz.prog gf cb good cf w0 g)
  (f : Nat → β × Nat) (a m b : Nat) (w : World) (h : Own6 c B 55 g n cap f w) (hg : w0.grownBy w (some g)) (hm : a + 1 = m) (h2 : m < b) (h3 : b ≤ n) (hn : n ≤ 1000000) (h1c : ∀ x, ∀ v ∈ c.list x, v.oneCell' = true)
  (hgd : ∀ t, t < n → good (f t).1) (hr : Stab.Runs cf a m b f) :
  Calls Tryz.prog 95 #[.slice (some ⟨g, 0, none⟩) n cap, .int .i64 (a : Int), .int .i64 (m : Int), .int .i64 (b : Int), .func (.func gf) #[] cb] w fun e w' => e = .returned (.tuple #[]) ∧ (∃ k, Stab.Perm a b f k ∧ Stab.Srt cf a b k ∧ Own6 c B 55 g n cap k w') ∧ w0.grownBy w' (some g) := by
 have HO := Lib.hid h
 have HG := Lib.hid hg
 have H1 := Lib.hid h1c
 have HCM := Lib.hid hcm
 have HGd := Lib.hid hgd
 have HRn := Lib.hid hr
 have em : (m : Int) - (a : Int) = 1 := by omega
 have HM := Lib.hid hm
 have ham : a < m := by omega
 clear h hg h1c hcm hgd hr hm
 go_enter Tryz.func95, Tryz.ntmps95
 go_wp2_with fail
 go_loopw [10, 11] (fun i j wr => SkRel c B g n cap w0 cf m b f (f a) i j wr) (fun i j _ => (intOf j).toNat - (intOf i).toNat)
 case atStart => exact ⟨m, b, rfl, rfl, Stab.seek_start m b (by omega) f (f a), HO.out, HG.out⟩
 case round =>
  obtain ⟨k, l, rfl, rfl, hsk, hown, hgr⟩ := hrel
  have hk1 := hsk.1
  have hk2 := hsk.2.1
  have hk3 := hsk.2.2.1
  have HSk := Lib.hid hsk
  clear hsk
  by_cases hlt : k < l
  ·obtain ⟨s, hs⟩ : ∃ s, k + l = s := ⟨_, rfl⟩
   have es : (k : Int) + (l : Int) = (s : Int) := by omega
   obtain ⟨u, hu⟩ : ∃ u, s / 2 = u := ⟨_, rfl⟩
   have eu : (s : Int) / 2 = (u : Int) := by omega
   have hku : k ≤ u := by omega
   have hul : u < l := by omega
   have hun : u < n := by omega
   have hvn : a < n := by omega
   have hidv : (f a).2 < (f u).2 := HRn.out.2.2 a u (Nat.le_refl _) ham (by omega) (by omega)
   clear hs hu
   have hdr := grown_below hgr (Below.refl _ _).drew
   have hod : Own6 c B 55 g n cap f wr.drew := hown.below c (Below.refl _ _).drew
   have hst := hod.two c hun hvn
   have hgu := HGd.out u hun
   have hgv := HGd.out a hvn
   obtain ⟨X, hX⟩ : ∃ X, (f u).1 = X := ⟨_, rfl⟩
   obtain ⟨Y, hY⟩ : ∃ Y, (f a).1 = Y := ⟨_, rfl⟩
   obtain ⟨r, hr⟩ : ∃ r, cf X Y = r := ⟨_, rfl⟩
   rw [hX, hY] at hst
   rw [hX] at hgu
   rw [hY] at hgv
   have HCm : Hid (∀ W, Below wr.drew.heap.size wr.drew W → Calls Tryz.prog gf (#[c.val X, c.val Y] ++ cb) W fun e w' => e = .returned (.int .i64 r) ∧ Below W.heap.size W w') := fun W hW => by
    rw [← hr]; exact HCM.out W (grown_below hdr hW) X Y hgu hgv
   have HYes : Hid (r < 0 → Stab.lt cf (f u) (f a)) := by
    show _ → _
    exact fun h => (Stab.lt_back hidv).2 (by rw [hX, hY, hr]; exact h)
   have HNo : Hid (0 ≤ r → Stab.lt cf (f a) (f u)) := by
    show _ → _
    exact fun h => Stab.lt_not ho hidv (by rw [hX, hY, hr]; omega)
   have HOd := Lib.hid hod
   obtain ⟨lb, hlb⟩ : ∃ lb, decide (r < 0) = lb := ⟨_, rfl⟩
   have uw : IntKind.i64.wrap (u : Int) = (u : Int) := by rw [IntKind.wrap_i64]; omega
   have u0 : (0 : Int) ≤ (u : Int) := by omega
   have u1 : (u : Int) < (n : Int) := by omega
   have v0 : (0 : Int) ≤ (a : Int) := by omega
   have v1 : (a : Int) < (n : Int) := by omega
   clear hod hX hY hr hgu hgv hidv hown
   go_wp2_with fail
   refine wp_region_held_drew (S := (fun W => Two6 c g u a X Y wr.drew W)) (by kernel_rfl) (hst) (fun hHeld => ?_)
   refine wpAnyH_take (i := 0) (v := ?_) rfl (by kernel_rfl) (by kernel_rfl) (by kernel_rfl) (fun _ _ _ h => h) (Or.inl ⟨by kernel_rfl, ?_⟩) hHeld ?_
   rotate_left
   ·(rintro W ⟨⟨e0, e1, e2, e3, e4, e5⟩, ⟨f0, f1, f2, f3, f4, f5⟩, _⟩; go_simp; (try with_reducible rfl))
   (try simp only [Act.put, putL])
   refine wpAnyH_take (i := 1) (v := ?_) rfl (by kernel_rfl) (by kernel_rfl) (by kernel_rfl) (fun _ _ _ h => h) (Or.inl ⟨by kernel_rfl, ?_⟩) hHeld ?_
   rotate_left
   ·(rintro W ⟨⟨e0, e1, e2, e3, e4, e5⟩, ⟨f0, f1, f2, f3, f4, f5⟩, _⟩; go_simp; (try with_reducible rfl))
   (try simp only [Act.put, putL])
   refine wpAnyH_take (i := 2) (v := ?_) rfl (by kernel_rfl) (by kernel_rfl) (by kernel_rfl) (fun _ _ _ h => h) (Or.inl ⟨by kernel_rfl, ?_⟩) hHeld ?_
   rotate_left
   ·(rintro W ⟨⟨e0, e1, e2, e3, e4, e5⟩, ⟨f0, f1, f2, f3, f4, f5⟩, _⟩; go_simp; (try with_reducible rfl))
   (try simp only [Act.put, putL])
   refine wpAnyH_take (i := 3) (v := ?_) rfl (by kernel_rfl) (by kernel_rfl) (by kernel_rfl) (fun _ _ _ h => h) (Or.inl ⟨by kernel_rfl, ?_⟩) hHeld ?_
   rotate_left
   ·(rintro W ⟨⟨e0, e1, e2, e3, e4, e5⟩, ⟨f0, f1, f2, f3, f4, f5⟩, _⟩; go_simp; (try with_reducible rfl))
   (try simp only [Act.put, putL])
   refine wpAnyH_take (i := 4) (v := ?_) rfl (by kernel_rfl) (by kernel_rfl) (by kernel_rfl) (fun _ _ _ h => h) (Or.inl ⟨by kernel_rfl, ?_⟩) hHeld ?_
   rotate_left
   ·(rintro W ⟨⟨e0, e1, e2, e3, e4, e5⟩, ⟨f0, f1, f2, f3, f4, f5⟩, _⟩; go_simp; (try with_reducible rfl))
   (try simp only [Act.put, putL])
   refine wpAnyH_take (i := 5) (v := ?_) rfl (by kernel_rfl) (by kernel_rfl) (by kernel_rfl) (fun _ _ _ h => h) (Or.inl ⟨by kernel_rfl, ?_⟩) hHeld ?_
   rotate_left
   ·(rintro W ⟨⟨e0, e1, e2, e3, e4, e5⟩, ⟨f0, f1, f2, f3, f4, f5⟩, _⟩; go_simp; (try with_reducible rfl))
   (try simp only [Act.put, putL])
   refine wpAnyH_take (i := 6) (v := ?_) rfl (by kernel_rfl) (by kernel_rfl) (by kernel_rfl) (fun _ _ _ h => h) (Or.inl ⟨by kernel_rfl, ?_⟩) hHeld ?_
   rotate_left
   ·(rintro W ⟨⟨e0, e1, e2, e3, e4, e5⟩, ⟨f0, f1, f2, f3, f4, f5⟩, _⟩; go_simp; (try with_reducible rfl))
   (try simp only [Act.put, putL])
   refine wpAnyH_take (i := 7) (v := ?_) rfl (by kernel_rfl) (by kernel_rfl) (by kernel_rfl) (fun _ _ _ h => h) (Or.inl ⟨by kernel_rfl, ?_⟩) hHeld ?_
   rotate_left
   ·(rintro W ⟨⟨e0, e1, e2, e3, e4, e5⟩, ⟨f0, f1, f2, f3, f4, f5⟩, _⟩; go_simp; (try with_reducible rfl))
   (try simp only [Act.put, putL])
   refine wpAnyH_take (i := 8) (v := ?_) rfl (by kernel_rfl) (by kernel_rfl) (by kernel_rfl) (fun _ _ _ h => h) (Or.inl ⟨by kernel_rfl, ?_⟩) hHeld ?_
   rotate_left
   ·(rintro W ⟨⟨e0, e1, e2, e3, e4, e5⟩, ⟨f0, f1, f2, f3, f4, f5⟩, _⟩; go_simp; (try with_reducible rfl))
   (try simp only [Act.put, putL])
   refine wpAnyH_ready (rs := [9]) (by kernel_rfl) (by simp) ?_
   refine AllReadyH.cons rfl (fun K hK => ?_) AllReadyH.nil
   go_simp
   refine (keepS (Two6.on c) hHeld (HCm.out _ hHeld.2.2)).mono ?_
   rintro e w5 ⟨rfl, hk5⟩
   refine hK.out _ _ (hk5) (fun hHeld => ?_)
   clear hK K
   (try simp only [Act.put, putL])
   refine wpAnyH_take (i := 10) (v := ?_) rfl (by kernel_rfl) (by kernel_rfl) (by kernel_rfl) (fun _ _ _ h => h) (Or.inl ⟨by kernel_rfl, ?_⟩) hHeld ?_
   rotate_left
   ·(rintro W ⟨⟨e0, e1, e2, e3, e4, e5⟩, ⟨f0, f1, f2, f3, f4, f5⟩, _⟩; go_simp; (try with_reducible rfl))
   (try simp only [Act.put, putL])
   refine wpAnyH_done (by kernel_rfl) ?_ _
   have hgF := grown_below hdr hHeld.2.2
   have HOF := Lib.hid (HOd.out.below c hHeld.2.2)
   have HLb := Lib.hid hlb
   clear hHeld hst hlb uw u0 u1 v0 v1
   cases lb
   rotate_left
   ·have HS2 := Lib.hid (Stab.seek_up ho HRn.out.2.1 HSk.out hku hul (HYes.out (of_decide_eq_true HLb.out)))
    go_wp2_with fail
    go_roundw
    case rel => exact ⟨u + 1, l, by go_num, rfl, HS2.out, HOF.out, hgF⟩
    case measure => simp [intOf]; omega
   ·have HS2 := Lib.hid (Stab.seek_dn ho HRn.out.2.1 HSk.out hku hul (HNo.out (Int.not_lt.1 (of_decide_eq_false HLb.out))))
    go_wp2_with fail
    go_roundw
    case rel => exact ⟨k, u, rfl, rfl, HS2.out, HOF.out, hgF⟩
    case measure => simp [intOf]; omega
  ·have hkl : l = k := by omega
   have q1 : decide ((k : Int) < (l : Int)) = false := decide_eq_false (by omega)
   have q1' : decide (k < l) = false := decide_eq_false hlt
   have HK : Hid (Stab.Seek cf m b f (f a) k k) := by
    have h := HSk.out
    rw [hkl] at h; exact h
   obtain ⟨N, hN⟩ : ∃ N, k - m = N := ⟨_, rfl⟩
   obtain ⟨z, hz⟩ : ∃ z, k - 1 = z := ⟨_, rfl⟩
   have ez : (k : Int) - 1 = (z : Int) := by omega
   have hzN : z = a + N := by have := HM.out; omega
   have hkn : k ≤ n := by omega
   have HZ := Lib.hid hzN
   have HN := Lib.hid hN
   have HOw := Lib.hid hown
   have hgw := hgr
   clear hkl hlt hN hz hzN hown hgr
   go_wp2_with fail
   go_loopw [13] (fun i wr => UpRel c B g n cap w0 f a N i wr) (fun i _ => n - (intOf i).toNat)
   case atStart => exact ⟨0, a, Nat.zero_le _, rfl, rfl, by rw [Stab.rot_none']; exact HOw.out, hgw⟩
   case round =>
    obtain ⟨t, p, htN, hp, rfl, hown, hgr⟩ := hrel
    by_cases hpz : p < z
    ·have q2 : decide ((p : Int) < (z : Int)) = true := decide_eq_true (by omega)
     have q2' : decide (p < z) = true := decide_eq_true hpz
     obtain ⟨q, hq⟩ : ∃ q, p + 1 = q := ⟨_, rfl⟩
     have eq : (p : Int) + 1 = (q : Int) := by omega
     have hzk := HZ.out
     have hNk := HN.out
     have hpn : p < n := by omega
     have hqn : q < n := by omega
     have i0 : (p : Int) < (n : Int) := by omega
     have i1 : (q : Int) < (n : Int) := by omega
     have htN2 : t + 1 ≤ N := by omega
     have HP : Hid (a + (t + 1) = q) := by show _ = _; omega
     have hod : Own6 c B 55 g n cap (Stab.rot f (a + 1) 1 t) wr.drew := hown.below c (Below.refl _ _).drew
     obtain ⟨V0, V1, V2, V3, V4, V5, U0, U1, U2, U3, U4, U5, s0, s1, s2, s3, s4, s5, t0, t1, t2, t3, t4, t5, ho5, hg5⟩ := hod.swap12 c Tryz.prog hpn hqn H1.out
     obtain ⟨x0, x1, x2, x3, x4, x5⟩ := hown.cells c hpn
     obtain ⟨y0, y1, y2, y3, y4, y5⟩ := hown.cells c hqn
     obtain ⟨X, hX⟩ : ∃ X, ((Stab.rot f (a + 1) 1 t) p).1 = X := ⟨_, rfl⟩
     obtain ⟨Y, hY⟩ : ∃ Y, ((Stab.rot f (a + 1) 1 t) q).1 = Y := ⟨_, rfl⟩
     rw [hX] at x0 x1 x2 x3 x4 x5 t0 t1 t2 t3 t4 t5
     rw [hY] at y0 y1 y2 y3 y4 y5 s0 s1 s2 s3 s4 s5
     have HO5 : Hid (Own6 c B 55 g n cap (Stab.rot f (a + 1) 1 (t + 1)) U5) := by
      have e : Stab.swp (Stab.rot f (a + 1) 1 t) p q = Stab.rot f (a + 1) 1 (t + 1) := by rw [← hq, ← hp]; exact Stab.rot_up f a t
      rw [e] at ho5; exact ho5
     have hgF2 := Lib.grownBy_trans (grown_below hgr (Below.refl _ _).drew) hg5
     clear hod ho5 hg5 hgr hX hY hown hq hp hzk hNk hpz
     go_wp2_with fail
     go_big_region
     all_goals go_wp2
     all_goals go_roundw
     case rel => exact ⟨t + 1, q, htN2, HP.out, rfl, HO5.out, hgF2⟩
     case measure => simp [intOf]; omega
    ·have q2 : decide ((p : Int) < (z : Int)) = false := decide_eq_false (by omega)
     have q2' : decide (p < z) = false := decide_eq_false hpz
     have htN2 : t = k - (a + 1) := by have := HZ.out; have := HN.out; have := HM.out; omega
     have HK2 := HK.out
     rw [← HM.out] at HK2
     have hS := Stab.merge_left (by have := HRn.out.2.1; rw [← HM.out] at this; exact this) HK2
     rw [← htN2] at hS
     have hP := (Stab.perm_rot f (m := a + 1) (i := 1) (j := t) (by omega)).mono (show a ≤ a + 1 - 1 by omega) (show a + 1 + t ≤ b by have := HM.out; omega)
     have HF := Lib.hid (show ∃ k, Stab.Perm a b f k ∧ Stab.Srt cf a b k ∧ Own6 c B 55 g n cap k wr from ⟨_, hP, hS, hown⟩)
     clear HK2 hS hP hown hpz hp htN2
     go_wp2_with fail
     refine bodyPost_ret (results_none rfl _ _ _) rfl ?_
     exact ⟨rfl, HF.out, hgr⟩
set_option maxRecDepth 100000 in
set_option maxHeartbeats 4000000 in
theorem symB (good : β → Prop) (cf : β → β → Int) (ho : OrdG cf) (gf : FuncId) (cb : Array Value) (eg : ∀ args w, (callFunc gf args).run Tryz.prog w = .ok (.enter gf args) w) (hcm : Cmp6 c Tryz.prog gf cb good cf w0 g)
  (f : Nat → β × Nat) (a m b : Nat) (w : World) (h : Own6 c B 55 g n cap f w) (hg : w0.grownBy w (some g)) (hm : a + 1 < m) (h2 : m + 1 = b) (h3 : b ≤ n) (hn : n ≤ 1000000) (h1c : ∀ x, ∀ v ∈ c.list x, v.oneCell' = true)
  (hgd : ∀ t, t < n → good (f t).1) (hr : Stab.Runs cf a m b f) :
  Calls Tryz.prog 95 #[.slice (some ⟨g, 0, none⟩) n cap, .int .i64 (a : Int), .int .i64 (m : Int), .int .i64 (b : Int), .func (.func gf) #[] cb] w fun e w' => e = .returned (.tuple #[]) ∧ (∃ k, Stab.Perm a b f k ∧ Stab.Srt cf a b k ∧ Own6 c B 55 g n cap k w') ∧ w0.grownBy w' (some g) := by
 have HO := Lib.hid h
 have HG := Lib.hid hg
 have H1 := Lib.hid h1c
 have HCM := Lib.hid hcm
 have HGd := Lib.hid hgd
 have HRn := Lib.hid hr
 obtain ⟨d, hd⟩ : ∃ d, m - a = d := ⟨_, rfl⟩
 have em : (m : Int) - (a : Int) = (d : Int) := by omega
 have q0 : ((d : Int) == 1) = false := by rw [beq_eq_false_iff_ne]; omega
 have q0' : (d == 1) = false := by rw [beq_eq_false_iff_ne]; omega
 have eb : (b : Int) - (m : Int) = 1 := by omega
 have HB := Lib.hid h2
 have hbm : m < b := by omega
 clear h hg h1c hcm hgd hr h2 hd
 go_enter Tryz.func95, Tryz.ntmps95
 go_wp2_with fail
 go_loopw [14, 15] (fun i j wr => SkRel c B g n cap w0 cf a m f (f m) i j wr) (fun i j _ => (intOf j).toNat - (intOf i).toNat)
 case atStart => exact ⟨a, m, rfl, rfl, Stab.seek_start a m (by omega) f (f m), HO.out, HG.out⟩
 case round =>
  obtain ⟨k, l, rfl, rfl, hsk, hown, hgr⟩ := hrel
  have hk1 := hsk.1
  have hk2 := hsk.2.1
  have hk3 := hsk.2.2.1
  have HSk := Lib.hid hsk
  clear hsk
  by_cases hlt : k < l
  ·obtain ⟨s, hs⟩ : ∃ s, k + l = s := ⟨_, rfl⟩
   have es : (k : Int) + (l : Int) = (s : Int) := by omega
   obtain ⟨u, hu⟩ : ∃ u, s / 2 = u := ⟨_, rfl⟩
   have eu : (s : Int) / 2 = (u : Int) := by omega
   have hku : k ≤ u := by omega
   have hul : u < l := by omega
   have hun : m < n := by omega
   have hvn : u < n := by omega
   have hidv : (f u).2 < (f m).2 := HRn.out.2.2 u m (by omega) (by omega) (Nat.le_refl _) hbm
   clear hs hu
   have hdr := grown_below hgr (Below.refl _ _).drew
   have hod : Own6 c B 55 g n cap f wr.drew := hown.below c (Below.refl _ _).drew
   have hst := hod.two c hun hvn
   have hgu := HGd.out m hun
   have hgv := HGd.out u hvn
   obtain ⟨X, hX⟩ : ∃ X, (f m).1 = X := ⟨_, rfl⟩
   obtain ⟨Y, hY⟩ : ∃ Y, (f u).1 = Y := ⟨_, rfl⟩
   obtain ⟨r, hr⟩ : ∃ r, cf X Y = r := ⟨_, rfl⟩
   rw [hX, hY] at hst
   rw [hX] at hgu
   rw [hY] at hgv
   have HCm : Hid (∀ W, Below wr.drew.heap.size wr.drew W → Calls Tryz.prog gf (#[c.val X, c.val Y] ++ cb) W fun e w' => e = .returned (.int .i64 r) ∧ Below W.heap.size W w') := fun W hW => by
    rw [← hr]; exact HCM.out W (grown_below hdr hW) X Y hgu hgv
   have HYes : Hid (r < 0 → Stab.lt cf (f m) (f u)) := by
    show _ → _
    exact fun h => (Stab.lt_back hidv).2 (by rw [hX, hY, hr]; exact h)
   have HNo : Hid (0 ≤ r → Stab.lt cf (f u) (f m)) := by
    show _ → _
    exact fun h => Stab.lt_not ho hidv (by rw [hX, hY, hr]; omega)
   have HOd := Lib.hid hod
   obtain ⟨lb, hlb⟩ : ∃ lb, decide (r < 0) = lb := ⟨_, rfl⟩
   have uw : IntKind.i64.wrap (m : Int) = (m : Int) := by rw [IntKind.wrap_i64]; omega
   have u0 : (0 : Int) ≤ (m : Int) := by omega
   have u1 : (m : Int) < (n : Int) := by omega
   have v0 : (0 : Int) ≤ (u : Int) := by omega
   have v1 : (u : Int) < (n : Int) := by omega
   clear hod hX hY hr hgu hgv hidv hown
   go_wp2_with fail
   refine wp_region_held_drew (S := (fun W => Two6 c g m u X Y wr.drew W)) (by kernel_rfl) (hst) (fun hHeld => ?_)
   refine wpAnyH_take (i := 0) (v := ?_) rfl (by kernel_rfl) (by kernel_rfl) (by kernel_rfl) (fun _ _ _ h => h) (Or.inl ⟨by kernel_rfl, ?_⟩) hHeld ?_
   rotate_left
   ·(rintro W ⟨⟨e0, e1, e2, e3, e4, e5⟩, ⟨f0, f1, f2, f3, f4, f5⟩, _⟩; go_simp; (try with_reducible rfl))
   (try simp only [Act.put, putL])
   refine wpAnyH_take (i := 1) (v := ?_) rfl (by kernel_rfl) (by kernel_rfl) (by kernel_rfl) (fun _ _ _ h => h) (Or.inl ⟨by kernel_rfl, ?_⟩) hHeld ?_
   rotate_left
   ·(rintro W ⟨⟨e0, e1, e2, e3, e4, e5⟩, ⟨f0, f1, f2, f3, f4, f5⟩, _⟩; go_simp; (try with_reducible rfl))
   (try simp only [Act.put, putL])
   refine wpAnyH_take (i := 2) (v := ?_) rfl (by kernel_rfl) (by kernel_rfl) (by kernel_rfl) (fun _ _ _ h => h) (Or.inl ⟨by kernel_rfl, ?_⟩) hHeld ?_
   rotate_left
   ·(rintro W ⟨⟨e0, e1, e2, e3, e4, e5⟩, ⟨f0, f1, f2, f3, f4, f5⟩, _⟩; go_simp; (try with_reducible rfl))
   (try simp only [Act.put, putL])
   refine wpAnyH_take (i := 3) (v := ?_) rfl (by kernel_rfl) (by kernel_rfl) (by kernel_rfl) (fun _ _ _ h => h) (Or.inl ⟨by kernel_rfl, ?_⟩) hHeld ?_
   rotate_left
   ·(rintro W ⟨⟨e0, e1, e2, e3, e4, e5⟩, ⟨f0, f1, f2, f3, f4, f5⟩, _⟩; go_simp; (try with_reducible rfl))
   (try simp only [Act.put, putL])
   refine wpAnyH_take (i := 4) (v := ?_) rfl (by kernel_rfl) (by kernel_rfl) (by kernel_rfl) (fun _ _ _ h => h) (Or.inl ⟨by kernel_rfl, ?_⟩) hHeld ?_
   rotate_left
   ·(rintro W ⟨⟨e0, e1, e2, e3, e4, e5⟩, ⟨f0, f1, f2, f3, f4, f5⟩, _⟩; go_simp; (try with_reducible rfl))
   (try simp only [Act.put, putL])
   refine wpAnyH_take (i := 5) (v := ?_) rfl (by kernel_rfl) (by kernel_rfl) (by kernel_rfl) (fun _ _ _ h => h) (Or.inl ⟨by kernel_rfl, ?_⟩) hHeld ?_
   rotate_left
   ·(rintro W ⟨⟨e0, e1, e2, e3, e4, e5⟩, ⟨f0, f1, f2, f3, f4, f5⟩, _⟩; go_simp; (try with_reducible rfl))
   (try simp only [Act.put, putL])
   refine wpAnyH_take (i := 6) (v := ?_) rfl (by kernel_rfl) (by kernel_rfl) (by kernel_rfl) (fun _ _ _ h => h) (Or.inl ⟨by kernel_rfl, ?_⟩) hHeld ?_
   rotate_left
   ·(rintro W ⟨⟨e0, e1, e2, e3, e4, e5⟩, ⟨f0, f1, f2, f3, f4, f5⟩, _⟩; go_simp; (try with_reducible rfl))
   (try simp only [Act.put, putL])
   refine wpAnyH_take (i := 7) (v := ?_) rfl (by kernel_rfl) (by kernel_rfl) (by kernel_rfl) (fun _ _ _ h => h) (Or.inl ⟨by kernel_rfl, ?_⟩) hHeld ?_
   rotate_left
   ·(rintro W ⟨⟨e0, e1, e2, e3, e4, e5⟩, ⟨f0, f1, f2, f3, f4, f5⟩, _⟩; go_simp; (try with_reducible rfl))
   (try simp only [Act.put, putL])
   refine wpAnyH_take (i := 8) (v := ?_) rfl (by kernel_rfl) (by kernel_rfl) (by kernel_rfl) (fun _ _ _ h => h) (Or.inl ⟨by kernel_rfl, ?_⟩) hHeld ?_
   rotate_left
   ·(rintro W ⟨⟨e0, e1, e2, e3, e4, e5⟩, ⟨f0, f1, f2, f3, f4, f5⟩, _⟩; go_simp; (try with_reducible rfl))
   (try simp only [Act.put, putL])
   refine wpAnyH_ready (rs := [9]) (by kernel_rfl) (by simp) ?_
   refine AllReadyH.cons rfl (fun K hK => ?_) AllReadyH.nil
   go_simp
   refine (keepS (Two6.on c) hHeld (HCm.out _ hHeld.2.2)).mono ?_
   rintro e w5 ⟨rfl, hk5⟩
   refine hK.out _ _ (hk5) (fun hHeld => ?_)
   clear hK K
   (try simp only [Act.put, putL])
   refine wpAnyH_take (i := 10) (v := ?_) rfl (by kernel_rfl) (by kernel_rfl) (by kernel_rfl) (fun _ _ _ h => h) (Or.inl ⟨by kernel_rfl, ?_⟩) hHeld ?_
   rotate_left
   ·(rintro W ⟨⟨e0, e1, e2, e3, e4, e5⟩, ⟨f0, f1, f2, f3, f4, f5⟩, _⟩; go_simp; (try with_reducible rfl))
   (try simp only [Act.put, putL])
   refine wpAnyH_take (i := 11) (v := ?_) rfl (by kernel_rfl) (by kernel_rfl) (by kernel_rfl) (fun _ _ _ h => h) (Or.inl ⟨by kernel_rfl, ?_⟩) hHeld ?_
   rotate_left
   ·(rintro W ⟨⟨e0, e1, e2, e3, e4, e5⟩, ⟨f0, f1, f2, f3, f4, f5⟩, _⟩; go_simp; (try with_reducible rfl))
   (try simp only [Act.put, putL])
   refine wpAnyH_done (by kernel_rfl) ?_ _
   have hgF := grown_below hdr hHeld.2.2
   have HOF := Lib.hid (HOd.out.below c hHeld.2.2)
   have HLb := Lib.hid hlb
   clear hHeld hst hlb uw u0 u1 v0 v1
   cases lb
   rotate_left
   ·have HS2 := Lib.hid (Stab.seek_dn ho HRn.out.1 HSk.out hku hul (HYes.out (of_decide_eq_true HLb.out)))
    go_wp2_with fail
    go_roundw
    case rel => exact ⟨k, u, rfl, rfl, HS2.out, HOF.out, hgF⟩
    case measure => simp [intOf]; omega
   ·have HS2 := Lib.hid (Stab.seek_up ho HRn.out.1 HSk.out hku hul (HNo.out (Int.not_lt.1 (of_decide_eq_false HLb.out))))
    go_wp2_with fail
    go_roundw
    case rel => exact ⟨u + 1, l, by go_num, rfl, HS2.out, HOF.out, hgF⟩
    case measure => simp [intOf]; omega
  ·have hkl : l = k := by omega
   have q1 : decide ((k : Int) < (l : Int)) = false := decide_eq_false (by omega)
   have q1' : decide (k < l) = false := decide_eq_false hlt
   have HK : Hid (Stab.Seek cf a m f (f m) k k) := by
    have h := HSk.out
    rw [hkl] at h; exact h
   obtain ⟨N, hN⟩ : ∃ N, m - k = N := ⟨_, rfl⟩
   have HN := Lib.hid hN
   have HOw := Lib.hid hown
   have hgw := hgr
   have hkm : k ≤ m := by omega
   clear hkl hlt hN hown hgr
   go_wp2_with fail
   go_loopw [17] (fun i wr => DnRel c B g n cap w0 f m N i wr) (fun i _ => (intOf i).toNat)
   case atStart => exact ⟨0, m, Nat.zero_le _, rfl, rfl, by rw [Stab.rot_none]; exact HOw.out, hgw⟩
   case round =>
    obtain ⟨t, p, htN, hp, rfl, hown, hgr⟩ := hrel
    by_cases hpz : k < p
    ·have q2 : decide ((k : Int) < (p : Int)) = true := decide_eq_true (by omega)
     have q2' : decide (k < p) = true := decide_eq_true hpz
     obtain ⟨q, hq⟩ : ∃ q, p - 1 = q := ⟨_, rfl⟩
     have eq : (p : Int) - 1 = (q : Int) := by omega
     have hNk := HN.out
     have hpn : p < n := by omega
     have hqn : q < n := by omega
     have i0 : (p : Int) < (n : Int) := by omega
     have i1 : (q : Int) < (n : Int) := by omega
     have htN2 : t + 1 ≤ N := by omega
     have HP : Hid (q + (t + 1) = m) := by show _ = _; omega
     have hqp : q < p := by omega
     have hod : Own6 c B 55 g n cap (Stab.rot f m t 1) wr.drew := hown.below c (Below.refl _ _).drew
     obtain ⟨V0, V1, V2, V3, V4, V5, U0, U1, U2, U3, U4, U5, s0, s1, s2, s3, s4, s5, t0, t1, t2, t3, t4, t5, ho5, hg5⟩ := hod.swap12 c Tryz.prog hpn hqn H1.out
     obtain ⟨x0, x1, x2, x3, x4, x5⟩ := hown.cells c hpn
     obtain ⟨y0, y1, y2, y3, y4, y5⟩ := hown.cells c hqn
     obtain ⟨X, hX⟩ : ∃ X, ((Stab.rot f m t 1) p).1 = X := ⟨_, rfl⟩
     obtain ⟨Y, hY⟩ : ∃ Y, ((Stab.rot f m t 1) q).1 = Y := ⟨_, rfl⟩
     rw [hX] at x0 x1 x2 x3 x4 x5 t0 t1 t2 t3 t4 t5
     rw [hY] at y0 y1 y2 y3 y4 y5 s0 s1 s2 s3 s4 s5
     have HO5 : Hid (Own6 c B 55 g n cap (Stab.rot f m (t + 1) 1) U5) := by
      have e : Stab.swp (Stab.rot f m t 1) p q = Stab.rot f m (t + 1) 1 := by
       have h := Stab.rot_dn f (m := m) (c := t) (by omega)
       rw [show m - t = p by omega, hq] at h; exact h
      rw [e] at ho5; exact ho5
     have hgF2 := Lib.grownBy_trans (grown_below hgr (Below.refl _ _).drew) hg5
     clear hod ho5 hg5 hgr hX hY hown hq hp hNk hpz
     go_wp2_with fail
     go_big_region
     all_goals go_wp2
     all_goals go_roundw
     case rel => exact ⟨t + 1, q, htN2, HP.out, rfl, HO5.out, hgF2⟩
     case measure => simp [intOf]; omega
    ·have q2 : decide ((k : Int) < (p : Int)) = false := decide_eq_false (by omega)
     have q2' : decide (k < p) = false := decide_eq_false hpz
     have htN2 : t = m - k := by have := HN.out; omega
     have hS := Stab.merge_right HRn.out.1 HK.out
     rw [← htN2, HB.out] at hS
     have hP := (Stab.perm_rot f (m := m) (i := t) (j := 1) (by omega)).mono (show a ≤ m - t by omega) (show m + 1 ≤ b by have := HB.out; omega)
     have HF := Lib.hid (show ∃ k, Stab.Perm a b f k ∧ Stab.Srt cf a b k ∧ Own6 c B 55 g n cap k wr from ⟨_, hP, hS, hown⟩)
     clear hS hP hown hpz hp htN2
     go_wp2_with fail
     refine bodyPost_ret (results_none rfl _ _ _) rfl ?_
     exact ⟨rfl, HF.out, hgr⟩
end
end Go.Proofs.YtbgimpeklblcjaaGreatDoor

namespace Go.Proofs.YtbgimpeklblcjaaGreatDoor
open Go.RowKit
section
variable {β : Type} (c : Six β) (B g n cap : Nat) (w0 : World)
def CuRel (cf : β → β → Int) (nn st r0 : Nat) (f : Nat → β × Nat) (i j : Value) (wr : World) : Prop :=
 ∃ k l : Nat, i = .int .i64 (k : Int) ∧ j = .int .i64 (l : Int) ∧ Stab.Cut cf nn st r0 f k l ∧ Own6 c B 55 g n cap f wr ∧ w0.grownBy wr (some g)
set_option maxRecDepth 100000 in
set_option maxHeartbeats 8000000 in
theorem symC (good : β → Prop) (cf : β → β → Int) (ho : OrdG cf) (gf : FuncId) (cb : Array Value) (eg : ∀ args w, (callFunc gf args).run Tryz.prog w = .ok (.enter gf args) w) (hcm : Cmp6 c Tryz.prog gf cb good cf w0 g)
  (f : Nat → β × Nat) (a m b : Nat) (w : World) (h : Own6 c B 55 g n cap f w) (hg : w0.grownBy w (some g)) (hm : a + 1 < m) (h2 : m + 1 < b) (h3 : b ≤ n) (hn : n ≤ 1000000) (h1c : ∀ x, ∀ v ∈ c.list x, v.oneCell' = true)
  (hgd : ∀ t, t < n → good (f t).1) (hr : Stab.Runs cf a m b f) (hmid : (a + b) / 2 < m)
  (IH : ∀ a' m' b' (f' : Nat → β × Nat) W, Own6 c B 55 g n cap f' W → w0.grownBy W (some g) → b' - a' < b - a → a' < m' → m' < b' → b' ≤ n → (∀ t, t < n → good (f' t).1) → Stab.Runs cf a' m' b' f' →
   Calls Tryz.prog 95 #[.slice (some ⟨g, 0, none⟩) n cap, .int .i64 (a' : Int), .int .i64 (m' : Int), .int .i64 (b' : Int), .func (.func gf) #[] cb] W fun e w' => e = .returned (.tuple #[]) ∧ (∃ k, Stab.Perm a' b' f' k ∧ Stab.Srt cf a' b' k ∧ Own6 c B 55 g n cap k w') ∧ w0.grownBy w' (some g)) :
  Calls Tryz.prog 95 #[.slice (some ⟨g, 0, none⟩) n cap, .int .i64 (a : Int), .int .i64 (m : Int), .int .i64 (b : Int), .func (.func gf) #[] cb] w fun e w' => e = .returned (.tuple #[]) ∧ (∃ k, Stab.Perm a b f k ∧ Stab.Srt cf a b k ∧ Own6 c B 55 g n cap k w') ∧ w0.grownBy w' (some g) := by
 have HO := Lib.hid h
 have HG := Lib.hid hg
 have H1 := Lib.hid h1c
 have HCM := Lib.hid hcm
 have HGd := Lib.hid hgd
 have HRn := Lib.hid hr
 obtain ⟨d, hd⟩ : ∃ d, m - a = d := ⟨_, rfl⟩
 have em : (m : Int) - (a : Int) = (d : Int) := by omega
 have q0 : ((d : Int) == 1) = false := by rw [beq_eq_false_iff_ne]; omega
 have q0' : (d == 1) = false := by rw [beq_eq_false_iff_ne]; omega
 obtain ⟨d2, hd2⟩ : ∃ d, b - m = d := ⟨_, rfl⟩
 have eb : (b : Int) - (m : Int) = (d2 : Int) := by omega
 have q1 : ((d2 : Int) == 1) = false := by rw [beq_eq_false_iff_ne]; omega
 have q1' : (d2 == 1) = false := by rw [beq_eq_false_iff_ne]; omega
 obtain ⟨s0, hs0⟩ : ∃ s, a + b = s := ⟨_, rfl⟩
 have es0 : (a : Int) + (b : Int) = (s0 : Int) := by omega
 rw [hs0] at hmid
 obtain ⟨mid, hmd⟩ : ∃ u, s0 / 2 = u := ⟨_, rfl⟩
 have emd : (s0 : Int) / 2 = (mid : Int) := by omega
 rw [hmd] at hmid
 obtain ⟨nn, hnn⟩ : ∃ u, mid + m = u := ⟨_, rfl⟩
 have enn : (mid : Int) + (m : Int) = (nn : Int) := by omega
 obtain ⟨pp, hpp⟩ : ∃ u, nn - 1 = u := ⟨_, rfl⟩
 have epp : (nn : Int) - 1 = (pp : Int) := by omega
 obtain ⟨st, hst0⟩ : ∃ u, nn - b = u := ⟨_, rfl⟩
 have est : (nn : Int) - (b : Int) = (st : Int) := by omega
 have hN : Stab.Nums a m b mid nn st mid := ⟨by omega, by omega, by omega, by omega, hnn.symm, .inl ⟨hmid, by omega, rfl⟩⟩
 have qm : decide ((mid : Int) < (m : Int)) = true := decide_eq_true (by omega)
 have qm' : decide (mid < m) = true := decide_eq_true (by omega)
 have HNm := Lib.hid hN
 have HPp := Lib.hid hpp
 have hmn : mid ≤ n := by omega
 have hmb : mid < b := by omega
 have ham : a ≤ mid := by omega
 have hnn2 : nn ≤ 2 * n := by omega
 have hr0n : mid ≤ n := by omega
 clear h hg h1c hcm hgd hr hd hd2 hs0 hmd hnn hpp hN hmid hst0
 go_enter Tryz.func95, Tryz.ntmps95
 go_wp2_with fail
 go_loopw [20, 21] (fun i j wr => CuRel c B g n cap w0 cf nn st mid f i j wr) (fun i j _ => (intOf j).toNat - (intOf i).toNat)
 case atStart => exact ⟨st, mid, rfl, rfl, Stab.cut_start HNm.out f, HO.out, HG.out⟩
 case round =>
  obtain ⟨k, l, rfl, rfl, hsk, hown, hgr⟩ := hrel
  have hk1 := hsk.1
  have hk2 := hsk.2.1
  have hk3 := hsk.2.2.1
  have HSk := Lib.hid hsk
  clear hsk
  by_cases hlt : k < l
  ·obtain ⟨s, hs⟩ : ∃ s, k + l = s := ⟨_, rfl⟩
   have es : (k : Int) + (l : Int) = (s : Int) := by omega
   obtain ⟨ct, hct⟩ : ∃ u, s / 2 = u := ⟨_, rfl⟩
   have ect : (s : Int) / 2 = (ct : Int) := by omega
   have hku : k ≤ ct := by omega
   have hul : ct < l := by omega
   obtain ⟨c1, c2, c3, c4, c5⟩ := Stab.cut_in HNm.out (show st ≤ ct by omega) (show ct < mid by omega)
   obtain ⟨u, hu⟩ : ∃ u, nn - 1 - ct = u := ⟨_, rfl⟩
   have eu : (pp : Int) - (ct : Int) = (u : Int) := by have := HPp.out; omega
   have hun : u < n := by omega
   have hvn : ct < n := by omega
   have hidv : (f ct).2 < (f u).2 := HRn.out.2.2 ct u c1 c2 (by omega) (by omega)
   have HU := Lib.hid hu
   clear hs hct hu c1 c2 c3 c4 c5
   have hdr := grown_below hgr (Below.refl _ _).drew
   have hod : Own6 c B 55 g n cap f wr.drew := hown.below c (Below.refl _ _).drew
   have hst := hod.two c hun hvn
   have hgu := HGd.out u hun
   have hgv := HGd.out ct hvn
   obtain ⟨X, hX⟩ : ∃ X, (f u).1 = X := ⟨_, rfl⟩
   obtain ⟨Y, hY⟩ : ∃ Y, (f ct).1 = Y := ⟨_, rfl⟩
   obtain ⟨r, hr⟩ : ∃ r, cf X Y = r := ⟨_, rfl⟩
   rw [hX, hY] at hst
   rw [hX] at hgu
   rw [hY] at hgv
   have HCm : Hid (∀ W, Below wr.drew.heap.size wr.drew W → Calls Tryz.prog gf (#[c.val X, c.val Y] ++ cb) W fun e w' => e = .returned (.int .i64 r) ∧ Below W.heap.size W w') := fun W hW => by
    rw [← hr]; exact HCM.out W (grown_below hdr hW) X Y hgu hgv
   have HYes : Hid (r < 0 → Stab.lt cf (f u) (f ct)) := by
    show _ → _
    exact fun h => (Stab.lt_back hidv).2 (by rw [hX, hY, hr]; exact h)
   have HNo : Hid (0 ≤ r → Stab.lt cf (f ct) (f u)) := by
    show _ → _
    exact fun h => Stab.lt_not ho hidv (by rw [hX, hY, hr]; omega)
   have HOd := Lib.hid hod
   obtain ⟨lb, hlb⟩ : ∃ lb, decide (r < 0) = lb := ⟨_, rfl⟩
   have uw : IntKind.i64.wrap (u : Int) = (u : Int) := by rw [IntKind.wrap_i64]; omega
   have u0 : (0 : Int) ≤ (u : Int) := by omega
   have u1 : (u : Int) < (n : Int) := by omega
   have v0 : (0 : Int) ≤ (ct : Int) := by omega
   have v1 : (ct : Int) < (n : Int) := by omega
   clear hod hX hY hr hgu hgv hidv hown
   go_wp2_with fail
   refine wp_region_held_drew (S := (fun W => Two6 c g u ct X Y wr.drew W)) (by kernel_rfl) (hst) (fun hHeld => ?_)
   refine wpAnyH_take (i := 0) (v := ?_) rfl (by kernel_rfl) (by kernel_rfl) (by kernel_rfl) (fun _ _ _ h => h) (Or.inl ⟨by kernel_rfl, ?_⟩) hHeld ?_
   rotate_left
   ·(rintro W ⟨⟨e0, e1, e2, e3, e4, e5⟩, ⟨f0, f1, f2, f3, f4, f5⟩, _⟩; go_simp; (try with_reducible rfl))
   (try simp only [Act.put, putL])
   refine wpAnyH_take (i := 1) (v := ?_) rfl (by kernel_rfl) (by kernel_rfl) (by kernel_rfl) (fun _ _ _ h => h) (Or.inl ⟨by kernel_rfl, ?_⟩) hHeld ?_
   rotate_left
   ·(rintro W ⟨⟨e0, e1, e2, e3, e4, e5⟩, ⟨f0, f1, f2, f3, f4, f5⟩, _⟩; go_simp; (try with_reducible rfl))
   (try simp only [Act.put, putL])
   refine wpAnyH_take (i := 2) (v := ?_) rfl (by kernel_rfl) (by kernel_rfl) (by kernel_rfl) (fun _ _ _ h => h) (Or.inl ⟨by kernel_rfl, ?_⟩) hHeld ?_
   rotate_left
   ·(rintro W ⟨⟨e0, e1, e2, e3, e4, e5⟩, ⟨f0, f1, f2, f3, f4, f5⟩, _⟩; go_simp; (try with_reducible rfl))
   (try simp only [Act.put, putL])
   refine wpAnyH_take (i := 3) (v := ?_) rfl (by kernel_rfl) (by kernel_rfl) (by kernel_rfl) (fun _ _ _ h => h) (Or.inl ⟨by kernel_rfl, ?_⟩) hHeld ?_
   rotate_left
   ·(rintro W ⟨⟨e0, e1, e2, e3, e4, e5⟩, ⟨f0, f1, f2, f3, f4, f5⟩, _⟩; go_simp; (try with_reducible rfl))
   (try simp only [Act.put, putL])
   refine wpAnyH_take (i := 4) (v := ?_) rfl (by kernel_rfl) (by kernel_rfl) (by kernel_rfl) (fun _ _ _ h => h) (Or.inl ⟨by kernel_rfl, ?_⟩) hHeld ?_
   rotate_left
   ·(rintro W ⟨⟨e0, e1, e2, e3, e4, e5⟩, ⟨f0, f1, f2, f3, f4, f5⟩, _⟩; go_simp; (try with_reducible rfl))
   (try simp only [Act.put, putL])
   refine wpAnyH_take (i := 5) (v := ?_) rfl (by kernel_rfl) (by kernel_rfl) (by kernel_rfl) (fun _ _ _ h => h) (Or.inl ⟨by kernel_rfl, ?_⟩) hHeld ?_
   rotate_left
   ·(rintro W ⟨⟨e0, e1, e2, e3, e4, e5⟩, ⟨f0, f1, f2, f3, f4, f5⟩, _⟩; go_simp; (try with_reducible rfl))
   (try simp only [Act.put, putL])
   refine wpAnyH_take (i := 6) (v := ?_) rfl (by kernel_rfl) (by kernel_rfl) (by kernel_rfl) (fun _ _ _ h => h) (Or.inl ⟨by kernel_rfl, ?_⟩) hHeld ?_
   rotate_left
   ·(rintro W ⟨⟨e0, e1, e2, e3, e4, e5⟩, ⟨f0, f1, f2, f3, f4, f5⟩, _⟩; go_simp; (try with_reducible rfl))
   (try simp only [Act.put, putL])
   refine wpAnyH_take (i := 7) (v := ?_) rfl (by kernel_rfl) (by kernel_rfl) (by kernel_rfl) (fun _ _ _ h => h) (Or.inl ⟨by kernel_rfl, ?_⟩) hHeld ?_
   rotate_left
   ·(rintro W ⟨⟨e0, e1, e2, e3, e4, e5⟩, ⟨f0, f1, f2, f3, f4, f5⟩, _⟩; go_simp; (try with_reducible rfl))
   (try simp only [Act.put, putL])
   refine wpAnyH_take (i := 8) (v := ?_) rfl (by kernel_rfl) (by kernel_rfl) (by kernel_rfl) (fun _ _ _ h => h) (Or.inl ⟨by kernel_rfl, ?_⟩) hHeld ?_
   rotate_left
   ·(rintro W ⟨⟨e0, e1, e2, e3, e4, e5⟩, ⟨f0, f1, f2, f3, f4, f5⟩, _⟩; go_simp; (try with_reducible rfl))
   (try simp only [Act.put, putL])
   refine wpAnyH_take (i := 9) (v := ?_) rfl (by kernel_rfl) (by kernel_rfl) (by kernel_rfl) (fun _ _ _ h => h) (Or.inl ⟨by kernel_rfl, ?_⟩) hHeld ?_
   rotate_left
   ·(rintro W ⟨⟨e0, e1, e2, e3, e4, e5⟩, ⟨f0, f1, f2, f3, f4, f5⟩, _⟩; go_simp; (try with_reducible rfl))
   (try simp only [Act.put, putL])
   refine wpAnyH_take (i := 10) (v := ?_) rfl (by kernel_rfl) (by kernel_rfl) (by kernel_rfl) (fun _ _ _ h => h) (Or.inl ⟨by kernel_rfl, ?_⟩) hHeld ?_
   rotate_left
   ·(rintro W ⟨⟨e0, e1, e2, e3, e4, e5⟩, ⟨f0, f1, f2, f3, f4, f5⟩, _⟩; go_simp; (try with_reducible rfl))
   (try simp only [Act.put, putL])
   refine wpAnyH_ready (rs := [11]) (by kernel_rfl) (by simp) ?_
   refine AllReadyH.cons rfl (fun K hK => ?_) AllReadyH.nil
   go_simp
   refine (keepS (Two6.on c) hHeld (HCm.out _ hHeld.2.2)).mono ?_
   rintro e w5 ⟨rfl, hk5⟩
   refine hK.out _ _ (hk5) (fun hHeld => ?_)
   clear hK K
   (try simp only [Act.put, putL])
   refine wpAnyH_take (i := 12) (v := ?_) rfl (by kernel_rfl) (by kernel_rfl) (by kernel_rfl) (fun _ _ _ h => h) (Or.inl ⟨by kernel_rfl, ?_⟩) hHeld ?_
   rotate_left
   ·(rintro W ⟨⟨e0, e1, e2, e3, e4, e5⟩, ⟨f0, f1, f2, f3, f4, f5⟩, _⟩; go_simp; (try with_reducible rfl))
   (try simp only [Act.put, putL])
   refine wpAnyH_take (i := 13) (v := ?_) rfl (by kernel_rfl) (by kernel_rfl) (by kernel_rfl) (fun _ _ _ h => h) (Or.inl ⟨by kernel_rfl, ?_⟩) hHeld ?_
   rotate_left
   ·(rintro W ⟨⟨e0, e1, e2, e3, e4, e5⟩, ⟨f0, f1, f2, f3, f4, f5⟩, _⟩; go_simp; (try with_reducible rfl))
   (try simp only [Act.put, putL])
   refine wpAnyH_done (by kernel_rfl) ?_ _
   have hgF := grown_below hdr hHeld.2.2
   have HOF := Lib.hid (HOd.out.below c hHeld.2.2)
   have HLb := Lib.hid hlb
   clear hHeld hst hlb uw u0 u1 v0 v1
   cases lb
   rotate_left
   ·have HS2 := Lib.hid (Stab.cut_dn ho HNm.out HRn.out HSk.out hku hul (by rw [HU.out]; exact HYes.out (of_decide_eq_true HLb.out)))
    go_wp2_with fail
    go_roundw
    case rel => exact ⟨k, ct, rfl, rfl, HS2.out, HOF.out, hgF⟩
    case measure => simp [intOf]; omega
   ·have HS2 := Lib.hid (Stab.cut_up ho HNm.out HRn.out HSk.out hku hul (by rw [HU.out]; exact HNo.out (Int.not_lt.1 (of_decide_eq_false HLb.out))))
    go_wp2_with fail
    go_roundw
    case rel => exact ⟨ct + 1, l, by go_num, rfl, HS2.out, HOF.out, hgF⟩
    case measure => simp [intOf]; omega
  ·have hkl : l = k := by omega
   have q2 : decide ((k : Int) < (l : Int)) = false := decide_eq_false (by omega)
   have q2' : decide (k < l) = false := decide_eq_false hlt
   have hcut := HSk.out
   rw [hkl] at hcut
   obtain ⟨s, hks⟩ : ∃ s, s = k := ⟨_, rfl⟩
   subst hks
   obtain ⟨hsm, hme, hha⟩ := Stab.cut_halves ho HNm.out HRn.out hcut
   obtain ⟨e, he⟩ : ∃ e, nn - s = e := ⟨_, rfl⟩
   rw [he] at hme hha
   have hse0 : s ≤ nn := by omega
   have ee : (nn : Int) - (s : Int) = (e : Int) := by omega
   have hpr := (Stab.perm_rot f (m := m) (i := m - s) (j := e - m) (by omega)).mono (show a ≤ m - (m - s) by have := hha.as; omega) (show m + (e - m) ≤ b by have := hha.eb; omega)
   obtain ⟨gg, hggd⟩ : ∃ gg, Stab.rot f m (m - s) (e - m) = gg := ⟨_, rfl⟩
   rw [hggd] at hha hpr
   have hgg := Stab.good_perm hpr h3 HGd.out
   have p1 := hha.as
   have p2 := hha.sm
   have p3 := hha.me
   have p4 := hha.eb
   have HGgd := Lib.hid hggd
   have HHalf := Lib.hid hha
   have HPrm := Lib.hid hpr
   have HGood := Lib.hid hgg
   have HOF := Lib.hid hown
   have hgF := hgr
   clear hkl hlt hcut he hha hpr hggd hgg hown hgr hse0
   by_cases h6 : s < m ∧ m < e
   ·have h61 := h6.1
    have h62 := h6.2
    have q3 : decide ((s : Int) < (m : Int)) = true := decide_eq_true (by omega)
    have q3' : decide (s < m) = true := decide_eq_true (by omega)
    have q4 : decide ((m : Int) < (e : Int)) = true := decide_eq_true (by omega)
    have q4' : decide (m < e) = true := decide_eq_true (by omega)
    have HC := Lib.hid (rotate_any c B g n cap w0 f s m e (.func (.func gf) #[] cb) _ HOF.out hgF h61 h62 (by omega) hn H1.out)
    rw [HGgd.out] at HC
    clear h6
    go_wp2_with fail
    refine HC.out.mono ?_
    rintro e0 wx ⟨rfl, ho0, hg0⟩
    have hha := HHalf.out
    have hpr := HPrm.out
    have hgg := HGood.out
    by_cases h4 : a < s ∧ s < mid
    ·have h41 := h4.1
     have h42 := h4.2
     have q5 : decide ((a : Int) < (s : Int)) = true := decide_eq_true (by omega)
     have q5' : decide (a < s) = true := decide_eq_true (by omega)
     have q6 : decide ((s : Int) < (mid : Int)) = true := decide_eq_true (by omega)
     have q6' : decide (s < mid) = true := decide_eq_true (by omega)
     have HC := Lib.hid (IH a s mid gg wx ho0 hg0 (by omega) h41 h42 (by omega) hgg hha.left)
     have HHa := Lib.hid hha
     have HPr := Lib.hid hpr
     have HGg := Lib.hid hgg
     clear h4 hha hpr hgg
     go_wp2_with fail
     refine HC.out.mono ?_
     rintro e1 wy ⟨rfl, ⟨k1, hp1, hs1, ho1⟩, hg1⟩
     have hha := HHa.out
     have hpr := HPr.out
     have hgg := HGg.out
     have hR2 := Stab.runs_perm hha.me hha.eb hha.right hp1 (.inl (Nat.le_refl _))
     by_cases h5 : mid < e ∧ e < b
     ·have h51 := h5.1
      have h52 := h5.2
      have q7 : decide ((mid : Int) < (e : Int)) = true := decide_eq_true (by omega)
      have q7' : decide (mid < e) = true := decide_eq_true (by omega)
      have q8 : decide ((e : Int) < (b : Int)) = true := decide_eq_true (by omega)
      have q8' : decide (e < b) = true := decide_eq_true (by omega)
      have HC := Lib.hid (IH mid e b k1 wy ho1 hg1 (by omega) h51 h52 h3 (Stab.good_perm hp1 (show mid ≤ n by omega) hgg) hR2)
      have HP1 := Lib.hid hp1
      have HS1 := Lib.hid hs1
      have HHa := Lib.hid hha
      have HPr := Lib.hid hpr
      clear h5 hha hR2 hpr hgg
      go_wp2_with fail
      refine HC.out.mono ?_
      rintro e2 wz ⟨rfl, ⟨k2, hp2, hs2, ho2⟩, hg2⟩
      obtain ⟨hpe, hse⟩ := Stab.halves_end HHa.out.cross HP1.out hp2 HS1.out hs2 (by omega) (by omega)
      have HF := Lib.hid (show ∃ k, Stab.Perm a b f k ∧ Stab.Srt cf a b k ∧ Own6 c B 55 g n cap k wz from ⟨k2, HPr.out.trans hpe, hse, ho2⟩)
      clear hp2 hs2 ho2 hpe hse
      go_wp2_with fail
      go_end0
      exact ⟨rfl, HF.out, hg2⟩
     have hs2 : Stab.Srt cf mid b k1 := Stab.half_one hR2 (by omega)
     obtain ⟨hpe, hse⟩ := Stab.halves_end hha.cross hp1 (Stab.Perm.refl mid b k1) hs1 hs2 (by omega) (by omega)
     have HF := Lib.hid (show ∃ k, Stab.Perm a b f k ∧ Stab.Srt cf a b k ∧ Own6 c B 55 g n cap k wy from ⟨k1, hpr.trans hpe, hse, ho1⟩)
     by_cases h51 : mid < e
     ·have h52 : ¬ e < b := fun h => h5 ⟨h51, h⟩
      have q7 : decide ((mid : Int) < (e : Int)) = true := decide_eq_true (by omega)
      have q7' : decide (mid < e) = true := decide_eq_true (by omega)
      have q8 : decide ((e : Int) < (b : Int)) = false := decide_eq_false (by omega)
      have q8' : decide (e < b) = false := decide_eq_false (by omega)
      clear h5 h51 h52 hha hR2 hpr hs2 hpe hse hgg
      go_wp2_with fail
      go_end0
      exact ⟨rfl, HF.out, hg1⟩
     have q7 : decide ((mid : Int) < (e : Int)) = false := decide_eq_false (by omega)
     have q7' : decide (mid < e) = false := decide_eq_false (by omega)
     clear h5 h51 hha hR2 hpr hs2 hpe hse hgg
     go_wp2_with fail
     go_end0
     exact ⟨rfl, HF.out, hg1⟩
    have hs1 : Stab.Srt cf a mid gg := Stab.half_one hha.left (by omega)
    by_cases h41 : a < s
    ·have h42 : ¬ s < mid := fun h => h4 ⟨h41, h⟩
     have q5 : decide ((a : Int) < (s : Int)) = true := decide_eq_true (by omega)
     have q5' : decide (a < s) = true := decide_eq_true (by omega)
     have q6 : decide ((s : Int) < (mid : Int)) = false := decide_eq_false (by omega)
     have q6' : decide (s < mid) = false := decide_eq_false (by omega)
     clear h4 h41 h42
     have hR2 := Stab.runs_perm hha.me hha.eb hha.right (Stab.Perm.refl a mid gg) (.inl (Nat.le_refl _))
     by_cases h5 : mid < e ∧ e < b
     ·have h51 := h5.1
      have h52 := h5.2
      have q7 : decide ((mid : Int) < (e : Int)) = true := decide_eq_true (by omega)
      have q7' : decide (mid < e) = true := decide_eq_true (by omega)
      have q8 : decide ((e : Int) < (b : Int)) = true := decide_eq_true (by omega)
      have q8' : decide (e < b) = true := decide_eq_true (by omega)
      have HC := Lib.hid (IH mid e b gg wx ho0 hg0 (by omega) h51 h52 h3 (Stab.good_perm (Stab.Perm.refl a mid gg) (show mid ≤ n by omega) hgg) hR2)
      have HP1 := Lib.hid (Stab.Perm.refl a mid gg)
      have HS1 := Lib.hid hs1
      have HHa := Lib.hid hha
      have HPr := Lib.hid hpr
      clear h5 hha hR2 hpr hgg
      go_wp2_with fail
      refine HC.out.mono ?_
      rintro e2 wz ⟨rfl, ⟨k2, hp2, hs2, ho2⟩, hg2⟩
      obtain ⟨hpe, hse⟩ := Stab.halves_end HHa.out.cross HP1.out hp2 HS1.out hs2 (by omega) (by omega)
      have HF := Lib.hid (show ∃ k, Stab.Perm a b f k ∧ Stab.Srt cf a b k ∧ Own6 c B 55 g n cap k wz from ⟨k2, HPr.out.trans hpe, hse, ho2⟩)
      clear hp2 hs2 ho2 hpe hse
      go_wp2_with fail
      go_end0
      exact ⟨rfl, HF.out, hg2⟩
     have hs2 : Stab.Srt cf mid b gg := Stab.half_one hR2 (by omega)
     obtain ⟨hpe, hse⟩ := Stab.halves_end hha.cross (Stab.Perm.refl a mid gg) (Stab.Perm.refl mid b gg) hs1 hs2 (by omega) (by omega)
     have HF := Lib.hid (show ∃ k, Stab.Perm a b f k ∧ Stab.Srt cf a b k ∧ Own6 c B 55 g n cap k wx from ⟨gg, hpr.trans hpe, hse, ho0⟩)
     by_cases h51 : mid < e
     ·have h52 : ¬ e < b := fun h => h5 ⟨h51, h⟩
      have q7 : decide ((mid : Int) < (e : Int)) = true := decide_eq_true (by omega)
      have q7' : decide (mid < e) = true := decide_eq_true (by omega)
      have q8 : decide ((e : Int) < (b : Int)) = false := decide_eq_false (by omega)
      have q8' : decide (e < b) = false := decide_eq_false (by omega)
      clear h5 h51 h52 hha hR2 hpr hs2 hpe hse hgg
      go_wp2_with fail
      go_end0
      exact ⟨rfl, HF.out, hg0⟩
     have q7 : decide ((mid : Int) < (e : Int)) = false := decide_eq_false (by omega)
     have q7' : decide (mid < e) = false := decide_eq_false (by omega)
     clear h5 h51 hha hR2 hpr hs2 hpe hse hgg
     go_wp2_with fail
     go_end0
     exact ⟨rfl, HF.out, hg0⟩
    have q5 : decide ((a : Int) < (s : Int)) = false := decide_eq_false (by omega)
    have q5' : decide (a < s) = false := decide_eq_false (by omega)
    clear h4 h41
    have hR2 := Stab.runs_perm hha.me hha.eb hha.right (Stab.Perm.refl a mid gg) (.inl (Nat.le_refl _))
    by_cases h5 : mid < e ∧ e < b
    ·have h51 := h5.1
     have h52 := h5.2
     have q7 : decide ((mid : Int) < (e : Int)) = true := decide_eq_true (by omega)
     have q7' : decide (mid < e) = true := decide_eq_true (by omega)
     have q8 : decide ((e : Int) < (b : Int)) = true := decide_eq_true (by omega)
     have q8' : decide (e < b) = true := decide_eq_true (by omega)
     have HC := Lib.hid (IH mid e b gg wx ho0 hg0 (by omega) h51 h52 h3 (Stab.good_perm (Stab.Perm.refl a mid gg) (show mid ≤ n by omega) hgg) hR2)
     have HP1 := Lib.hid (Stab.Perm.refl a mid gg)
     have HS1 := Lib.hid hs1
     have HHa := Lib.hid hha
     have HPr := Lib.hid hpr
     clear h5 hha hR2 hpr hgg
     go_wp2_with fail
     refine HC.out.mono ?_
     rintro e2 wz ⟨rfl, ⟨k2, hp2, hs2, ho2⟩, hg2⟩
     obtain ⟨hpe, hse⟩ := Stab.halves_end HHa.out.cross HP1.out hp2 HS1.out hs2 (by omega) (by omega)
     have HF := Lib.hid (show ∃ k, Stab.Perm a b f k ∧ Stab.Srt cf a b k ∧ Own6 c B 55 g n cap k wz from ⟨k2, HPr.out.trans hpe, hse, ho2⟩)
     clear hp2 hs2 ho2 hpe hse
     go_wp2_with fail
     go_end0
     exact ⟨rfl, HF.out, hg2⟩
    have hs2 : Stab.Srt cf mid b gg := Stab.half_one hR2 (by omega)
    obtain ⟨hpe, hse⟩ := Stab.halves_end hha.cross (Stab.Perm.refl a mid gg) (Stab.Perm.refl mid b gg) hs1 hs2 (by omega) (by omega)
    have HF := Lib.hid (show ∃ k, Stab.Perm a b f k ∧ Stab.Srt cf a b k ∧ Own6 c B 55 g n cap k wx from ⟨gg, hpr.trans hpe, hse, ho0⟩)
    by_cases h51 : mid < e
    ·have h52 : ¬ e < b := fun h => h5 ⟨h51, h⟩
     have q7 : decide ((mid : Int) < (e : Int)) = true := decide_eq_true (by omega)
     have q7' : decide (mid < e) = true := decide_eq_true (by omega)
     have q8 : decide ((e : Int) < (b : Int)) = false := decide_eq_false (by omega)
     have q8' : decide (e < b) = false := decide_eq_false (by omega)
     clear h5 h51 h52 hha hR2 hpr hs2 hpe hse hgg
     go_wp2_with fail
     go_end0
     exact ⟨rfl, HF.out, hg0⟩
    have q7 : decide ((mid : Int) < (e : Int)) = false := decide_eq_false (by omega)
    have q7' : decide (mid < e) = false := decide_eq_false (by omega)
    clear h5 h51 hha hR2 hpr hs2 hpe hse hgg
    go_wp2_with fail
    go_end0
    exact ⟨rfl, HF.out, hg0⟩
   have hgf : gg = f := by
    rw [← HGgd.out]
    by_cases hx : s < m
    ·have : ¬ m < e := fun h => h6 ⟨hx, h⟩
     rw [show e - m = 0 by omega]; exact Stab.rot_none' _ _ _
    ·rw [show m - s = 0 by omega]; exact Stab.rot_none _ _ _
   have hown := HOF.out
   rw [← hgf] at hown
   have HOG := Lib.hid hown
   have hha := HHalf.out
   have hpr := HPrm.out
   have hgg := HGood.out
   by_cases h61 : s < m
   ·have h62 : ¬ m < e := fun h => h6 ⟨h61, h⟩
    have q3 : decide ((s : Int) < (m : Int)) = true := decide_eq_true (by omega)
    have q3' : decide (s < m) = true := decide_eq_true (by omega)
    have q4 : decide ((m : Int) < (e : Int)) = false := decide_eq_false (by omega)
    have q4' : decide (m < e) = false := decide_eq_false (by omega)
    clear h6 h61 h62 hgf hown
    by_cases h4 : a < s ∧ s < mid
    ·have h41 := h4.1
     have h42 := h4.2
     have q5 : decide ((a : Int) < (s : Int)) = true := decide_eq_true (by omega)
     have q5' : decide (a < s) = true := decide_eq_true (by omega)
     have q6 : decide ((s : Int) < (mid : Int)) = true := decide_eq_true (by omega)
     have q6' : decide (s < mid) = true := decide_eq_true (by omega)
     have HC := Lib.hid (IH a s mid gg _ HOG.out hgF (by omega) h41 h42 (by omega) hgg hha.left)
     have HHa := Lib.hid hha
     have HPr := Lib.hid hpr
     have HGg := Lib.hid hgg
     clear h4 hha hpr hgg
     go_wp2_with fail
     refine HC.out.mono ?_
     rintro e1 wy ⟨rfl, ⟨k1, hp1, hs1, ho1⟩, hg1⟩
     have hha := HHa.out
     have hpr := HPr.out
     have hgg := HGg.out
     have hR2 := Stab.runs_perm hha.me hha.eb hha.right hp1 (.inl (Nat.le_refl _))
     by_cases h5 : mid < e ∧ e < b
     ·have h51 := h5.1
      have h52 := h5.2
      have q7 : decide ((mid : Int) < (e : Int)) = true := decide_eq_true (by omega)
      have q7' : decide (mid < e) = true := decide_eq_true (by omega)
      have q8 : decide ((e : Int) < (b : Int)) = true := decide_eq_true (by omega)
      have q8' : decide (e < b) = true := decide_eq_true (by omega)
      have HC := Lib.hid (IH mid e b k1 wy ho1 hg1 (by omega) h51 h52 h3 (Stab.good_perm hp1 (show mid ≤ n by omega) hgg) hR2)
      have HP1 := Lib.hid hp1
      have HS1 := Lib.hid hs1
      have HHa := Lib.hid hha
      have HPr := Lib.hid hpr
      clear h5 hha hR2 hpr hgg
      go_wp2_with fail
      refine HC.out.mono ?_
      rintro e2 wz ⟨rfl, ⟨k2, hp2, hs2, ho2⟩, hg2⟩
      obtain ⟨hpe, hse⟩ := Stab.halves_end HHa.out.cross HP1.out hp2 HS1.out hs2 (by omega) (by omega)
      have HF := Lib.hid (show ∃ k, Stab.Perm a b f k ∧ Stab.Srt cf a b k ∧ Own6 c B 55 g n cap k wz from ⟨k2, HPr.out.trans hpe, hse, ho2⟩)
      clear hp2 hs2 ho2 hpe hse
      go_wp2_with fail
      go_end0
      exact ⟨rfl, HF.out, hg2⟩
     have hs2 : Stab.Srt cf mid b k1 := Stab.half_one hR2 (by omega)
     obtain ⟨hpe, hse⟩ := Stab.halves_end hha.cross hp1 (Stab.Perm.refl mid b k1) hs1 hs2 (by omega) (by omega)
     have HF := Lib.hid (show ∃ k, Stab.Perm a b f k ∧ Stab.Srt cf a b k ∧ Own6 c B 55 g n cap k wy from ⟨k1, hpr.trans hpe, hse, ho1⟩)
     by_cases h51 : mid < e
     ·have h52 : ¬ e < b := fun h => h5 ⟨h51, h⟩
      have q7 : decide ((mid : Int) < (e : Int)) = true := decide_eq_true (by omega)
      have q7' : decide (mid < e) = true := decide_eq_true (by omega)
      have q8 : decide ((e : Int) < (b : Int)) = false := decide_eq_false (by omega)
      have q8' : decide (e < b) = false := decide_eq_false (by omega)
      clear h5 h51 h52 hha hR2 hpr hs2 hpe hse hgg
      go_wp2_with fail
      go_end0
      exact ⟨rfl, HF.out, hg1⟩
     have q7 : decide ((mid : Int) < (e : Int)) = false := decide_eq_false (by omega)
     have q7' : decide (mid < e) = false := decide_eq_false (by omega)
     clear h5 h51 hha hR2 hpr hs2 hpe hse hgg
     go_wp2_with fail
     go_end0
     exact ⟨rfl, HF.out, hg1⟩
    have hs1 : Stab.Srt cf a mid gg := Stab.half_one hha.left (by omega)
    by_cases h41 : a < s
    ·have h42 : ¬ s < mid := fun h => h4 ⟨h41, h⟩
     have q5 : decide ((a : Int) < (s : Int)) = true := decide_eq_true (by omega)
     have q5' : decide (a < s) = true := decide_eq_true (by omega)
     have q6 : decide ((s : Int) < (mid : Int)) = false := decide_eq_false (by omega)
     have q6' : decide (s < mid) = false := decide_eq_false (by omega)
     clear h4 h41 h42
     have hR2 := Stab.runs_perm hha.me hha.eb hha.right (Stab.Perm.refl a mid gg) (.inl (Nat.le_refl _))
     by_cases h5 : mid < e ∧ e < b
     ·have h51 := h5.1
      have h52 := h5.2
      have q7 : decide ((mid : Int) < (e : Int)) = true := decide_eq_true (by omega)
      have q7' : decide (mid < e) = true := decide_eq_true (by omega)
      have q8 : decide ((e : Int) < (b : Int)) = true := decide_eq_true (by omega)
      have q8' : decide (e < b) = true := decide_eq_true (by omega)
      have HC := Lib.hid (IH mid e b gg _ HOG.out hgF (by omega) h51 h52 h3 (Stab.good_perm (Stab.Perm.refl a mid gg) (show mid ≤ n by omega) hgg) hR2)
      have HP1 := Lib.hid (Stab.Perm.refl a mid gg)
      have HS1 := Lib.hid hs1
      have HHa := Lib.hid hha
      have HPr := Lib.hid hpr
      clear h5 hha hR2 hpr hgg
      go_wp2_with fail
      refine HC.out.mono ?_
      rintro e2 wz ⟨rfl, ⟨k2, hp2, hs2, ho2⟩, hg2⟩
      obtain ⟨hpe, hse⟩ := Stab.halves_end HHa.out.cross HP1.out hp2 HS1.out hs2 (by omega) (by omega)
      have HF := Lib.hid (show ∃ k, Stab.Perm a b f k ∧ Stab.Srt cf a b k ∧ Own6 c B 55 g n cap k wz from ⟨k2, HPr.out.trans hpe, hse, ho2⟩)
      clear hp2 hs2 ho2 hpe hse
      go_wp2_with fail
      go_end0
      exact ⟨rfl, HF.out, hg2⟩
     have hs2 : Stab.Srt cf mid b gg := Stab.half_one hR2 (by omega)
     obtain ⟨hpe, hse⟩ := Stab.halves_end hha.cross (Stab.Perm.refl a mid gg) (Stab.Perm.refl mid b gg) hs1 hs2 (by omega) (by omega)
     have HF := Lib.hid (show ∃ k, Stab.Perm a b f k ∧ Stab.Srt cf a b k ∧ Own6 c B 55 g n cap k _ from ⟨gg, hpr.trans hpe, hse, HOG.out⟩)
     by_cases h51 : mid < e
     ·have h52 : ¬ e < b := fun h => h5 ⟨h51, h⟩
      have q7 : decide ((mid : Int) < (e : Int)) = true := decide_eq_true (by omega)
      have q7' : decide (mid < e) = true := decide_eq_true (by omega)
      have q8 : decide ((e : Int) < (b : Int)) = false := decide_eq_false (by omega)
      have q8' : decide (e < b) = false := decide_eq_false (by omega)
      clear h5 h51 h52 hha hR2 hpr hs2 hpe hse hgg
      go_wp2_with fail
      go_end0
      exact ⟨rfl, HF.out, hgF⟩
     have q7 : decide ((mid : Int) < (e : Int)) = false := decide_eq_false (by omega)
     have q7' : decide (mid < e) = false := decide_eq_false (by omega)
     clear h5 h51 hha hR2 hpr hs2 hpe hse hgg
     go_wp2_with fail
     go_end0
     exact ⟨rfl, HF.out, hgF⟩
    have q5 : decide ((a : Int) < (s : Int)) = false := decide_eq_false (by omega)
    have q5' : decide (a < s) = false := decide_eq_false (by omega)
    clear h4 h41
    have hR2 := Stab.runs_perm hha.me hha.eb hha.right (Stab.Perm.refl a mid gg) (.inl (Nat.le_refl _))
    by_cases h5 : mid < e ∧ e < b
    ·have h51 := h5.1
     have h52 := h5.2
     have q7 : decide ((mid : Int) < (e : Int)) = true := decide_eq_true (by omega)
     have q7' : decide (mid < e) = true := decide_eq_true (by omega)
     have q8 : decide ((e : Int) < (b : Int)) = true := decide_eq_true (by omega)
     have q8' : decide (e < b) = true := decide_eq_true (by omega)
     have HC := Lib.hid (IH mid e b gg _ HOG.out hgF (by omega) h51 h52 h3 (Stab.good_perm (Stab.Perm.refl a mid gg) (show mid ≤ n by omega) hgg) hR2)
     have HP1 := Lib.hid (Stab.Perm.refl a mid gg)
     have HS1 := Lib.hid hs1
     have HHa := Lib.hid hha
     have HPr := Lib.hid hpr
     clear h5 hha hR2 hpr hgg
     go_wp2_with fail
     refine HC.out.mono ?_
     rintro e2 wz ⟨rfl, ⟨k2, hp2, hs2, ho2⟩, hg2⟩
     obtain ⟨hpe, hse⟩ := Stab.halves_end HHa.out.cross HP1.out hp2 HS1.out hs2 (by omega) (by omega)
     have HF := Lib.hid (show ∃ k, Stab.Perm a b f k ∧ Stab.Srt cf a b k ∧ Own6 c B 55 g n cap k wz from ⟨k2, HPr.out.trans hpe, hse, ho2⟩)
     clear hp2 hs2 ho2 hpe hse
     go_wp2_with fail
     go_end0
     exact ⟨rfl, HF.out, hg2⟩
    have hs2 : Stab.Srt cf mid b gg := Stab.half_one hR2 (by omega)
    obtain ⟨hpe, hse⟩ := Stab.halves_end hha.cross (Stab.Perm.refl a mid gg) (Stab.Perm.refl mid b gg) hs1 hs2 (by omega) (by omega)
    have HF := Lib.hid (show ∃ k, Stab.Perm a b f k ∧ Stab.Srt cf a b k ∧ Own6 c B 55 g n cap k _ from ⟨gg, hpr.trans hpe, hse, HOG.out⟩)
    by_cases h51 : mid < e
    ·have h52 : ¬ e < b := fun h => h5 ⟨h51, h⟩
     have q7 : decide ((mid : Int) < (e : Int)) = true := decide_eq_true (by omega)
     have q7' : decide (mid < e) = true := decide_eq_true (by omega)
     have q8 : decide ((e : Int) < (b : Int)) = false := decide_eq_false (by omega)
     have q8' : decide (e < b) = false := decide_eq_false (by omega)
     clear h5 h51 h52 hha hR2 hpr hs2 hpe hse hgg
     go_wp2_with fail
     go_end0
     exact ⟨rfl, HF.out, hgF⟩
    have q7 : decide ((mid : Int) < (e : Int)) = false := decide_eq_false (by omega)
    have q7' : decide (mid < e) = false := decide_eq_false (by omega)
    clear h5 h51 hha hR2 hpr hs2 hpe hse hgg
    go_wp2_with fail
    go_end0
    exact ⟨rfl, HF.out, hgF⟩
   have q3 : decide ((s : Int) < (m : Int)) = false := decide_eq_false (by omega)
   have q3' : decide (s < m) = false := decide_eq_false (by omega)
   clear h6 h61 hgf hown
   by_cases h4 : a < s ∧ s < mid
   ·have h41 := h4.1
    have h42 := h4.2
    have q5 : decide ((a : Int) < (s : Int)) = true := decide_eq_true (by omega)
    have q5' : decide (a < s) = true := decide_eq_true (by omega)
    have q6 : decide ((s : Int) < (mid : Int)) = true := decide_eq_true (by omega)
    have q6' : decide (s < mid) = true := decide_eq_true (by omega)
    have HC := Lib.hid (IH a s mid gg _ HOG.out hgF (by omega) h41 h42 (by omega) hgg hha.left)
    have HHa := Lib.hid hha
    have HPr := Lib.hid hpr
    have HGg := Lib.hid hgg
    clear h4 hha hpr hgg
    go_wp2_with fail
    refine HC.out.mono ?_
    rintro e1 wy ⟨rfl, ⟨k1, hp1, hs1, ho1⟩, hg1⟩
    have hha := HHa.out
    have hpr := HPr.out
    have hgg := HGg.out
    have hR2 := Stab.runs_perm hha.me hha.eb hha.right hp1 (.inl (Nat.le_refl _))
    by_cases h5 : mid < e ∧ e < b
    ·have h51 := h5.1
     have h52 := h5.2
     have q7 : decide ((mid : Int) < (e : Int)) = true := decide_eq_true (by omega)
     have q7' : decide (mid < e) = true := decide_eq_true (by omega)
     have q8 : decide ((e : Int) < (b : Int)) = true := decide_eq_true (by omega)
     have q8' : decide (e < b) = true := decide_eq_true (by omega)
     have HC := Lib.hid (IH mid e b k1 wy ho1 hg1 (by omega) h51 h52 h3 (Stab.good_perm hp1 (show mid ≤ n by omega) hgg) hR2)
     have HP1 := Lib.hid hp1
     have HS1 := Lib.hid hs1
     have HHa := Lib.hid hha
     have HPr := Lib.hid hpr
     clear h5 hha hR2 hpr hgg
     go_wp2_with fail
     refine HC.out.mono ?_
     rintro e2 wz ⟨rfl, ⟨k2, hp2, hs2, ho2⟩, hg2⟩
     obtain ⟨hpe, hse⟩ := Stab.halves_end HHa.out.cross HP1.out hp2 HS1.out hs2 (by omega) (by omega)
     have HF := Lib.hid (show ∃ k, Stab.Perm a b f k ∧ Stab.Srt cf a b k ∧ Own6 c B 55 g n cap k wz from ⟨k2, HPr.out.trans hpe, hse, ho2⟩)
     clear hp2 hs2 ho2 hpe hse
     go_wp2_with fail
     go_end0
     exact ⟨rfl, HF.out, hg2⟩
    have hs2 : Stab.Srt cf mid b k1 := Stab.half_one hR2 (by omega)
    obtain ⟨hpe, hse⟩ := Stab.halves_end hha.cross hp1 (Stab.Perm.refl mid b k1) hs1 hs2 (by omega) (by omega)
    have HF := Lib.hid (show ∃ k, Stab.Perm a b f k ∧ Stab.Srt cf a b k ∧ Own6 c B 55 g n cap k wy from ⟨k1, hpr.trans hpe, hse, ho1⟩)
    by_cases h51 : mid < e
    ·have h52 : ¬ e < b := fun h => h5 ⟨h51, h⟩
     have q7 : decide ((mid : Int) < (e : Int)) = true := decide_eq_true (by omega)
     have q7' : decide (mid < e) = true := decide_eq_true (by omega)
     have q8 : decide ((e : Int) < (b : Int)) = false := decide_eq_false (by omega)
     have q8' : decide (e < b) = false := decide_eq_false (by omega)
     clear h5 h51 h52 hha hR2 hpr hs2 hpe hse hgg
     go_wp2_with fail
     go_end0
     exact ⟨rfl, HF.out, hg1⟩
    have q7 : decide ((mid : Int) < (e : Int)) = false := decide_eq_false (by omega)
    have q7' : decide (mid < e) = false := decide_eq_false (by omega)
    clear h5 h51 hha hR2 hpr hs2 hpe hse hgg
    go_wp2_with fail
    go_end0
    exact ⟨rfl, HF.out, hg1⟩
   have hs1 : Stab.Srt cf a mid gg := Stab.half_one hha.left (by omega)
   by_cases h41 : a < s
   ·have h42 : ¬ s < mid := fun h => h4 ⟨h41, h⟩
    have q5 : decide ((a : Int) < (s : Int)) = true := decide_eq_true (by omega)
    have q5' : decide (a < s) = true := decide_eq_true (by omega)
    have q6 : decide ((s : Int) < (mid : Int)) = false := decide_eq_false (by omega)
    have q6' : decide (s < mid) = false := decide_eq_false (by omega)
    clear h4 h41 h42
    have hR2 := Stab.runs_perm hha.me hha.eb hha.right (Stab.Perm.refl a mid gg) (.inl (Nat.le_refl _))
    by_cases h5 : mid < e ∧ e < b
    ·have h51 := h5.1
     have h52 := h5.2
     have q7 : decide ((mid : Int) < (e : Int)) = true := decide_eq_true (by omega)
     have q7' : decide (mid < e) = true := decide_eq_true (by omega)
     have q8 : decide ((e : Int) < (b : Int)) = true := decide_eq_true (by omega)
     have q8' : decide (e < b) = true := decide_eq_true (by omega)
     have HC := Lib.hid (IH mid e b gg _ HOG.out hgF (by omega) h51 h52 h3 (Stab.good_perm (Stab.Perm.refl a mid gg) (show mid ≤ n by omega) hgg) hR2)
     have HP1 := Lib.hid (Stab.Perm.refl a mid gg)
     have HS1 := Lib.hid hs1
     have HHa := Lib.hid hha
     have HPr := Lib.hid hpr
     clear h5 hha hR2 hpr hgg
     go_wp2_with fail
     refine HC.out.mono ?_
     rintro e2 wz ⟨rfl, ⟨k2, hp2, hs2, ho2⟩, hg2⟩
     obtain ⟨hpe, hse⟩ := Stab.halves_end HHa.out.cross HP1.out hp2 HS1.out hs2 (by omega) (by omega)
     have HF := Lib.hid (show ∃ k, Stab.Perm a b f k ∧ Stab.Srt cf a b k ∧ Own6 c B 55 g n cap k wz from ⟨k2, HPr.out.trans hpe, hse, ho2⟩)
     clear hp2 hs2 ho2 hpe hse
     go_wp2_with fail
     go_end0
     exact ⟨rfl, HF.out, hg2⟩
    have hs2 : Stab.Srt cf mid b gg := Stab.half_one hR2 (by omega)
    obtain ⟨hpe, hse⟩ := Stab.halves_end hha.cross (Stab.Perm.refl a mid gg) (Stab.Perm.refl mid b gg) hs1 hs2 (by omega) (by omega)
    have HF := Lib.hid (show ∃ k, Stab.Perm a b f k ∧ Stab.Srt cf a b k ∧ Own6 c B 55 g n cap k _ from ⟨gg, hpr.trans hpe, hse, HOG.out⟩)
    by_cases h51 : mid < e
    ·have h52 : ¬ e < b := fun h => h5 ⟨h51, h⟩
     have q7 : decide ((mid : Int) < (e : Int)) = true := decide_eq_true (by omega)
     have q7' : decide (mid < e) = true := decide_eq_true (by omega)
     have q8 : decide ((e : Int) < (b : Int)) = false := decide_eq_false (by omega)
     have q8' : decide (e < b) = false := decide_eq_false (by omega)
     clear h5 h51 h52 hha hR2 hpr hs2 hpe hse hgg
     go_wp2_with fail
     go_end0
     exact ⟨rfl, HF.out, hgF⟩
    have q7 : decide ((mid : Int) < (e : Int)) = false := decide_eq_false (by omega)
    have q7' : decide (mid < e) = false := decide_eq_false (by omega)
    clear h5 h51 hha hR2 hpr hs2 hpe hse hgg
    go_wp2_with fail
    go_end0
    exact ⟨rfl, HF.out, hgF⟩
   have q5 : decide ((a : Int) < (s : Int)) = false := decide_eq_false (by omega)
   have q5' : decide (a < s) = false := decide_eq_false (by omega)
   clear h4 h41
   have hR2 := Stab.runs_perm hha.me hha.eb hha.right (Stab.Perm.refl a mid gg) (.inl (Nat.le_refl _))
   by_cases h5 : mid < e ∧ e < b
   ·have h51 := h5.1
    have h52 := h5.2
    have q7 : decide ((mid : Int) < (e : Int)) = true := decide_eq_true (by omega)
    have q7' : decide (mid < e) = true := decide_eq_true (by omega)
    have q8 : decide ((e : Int) < (b : Int)) = true := decide_eq_true (by omega)
    have q8' : decide (e < b) = true := decide_eq_true (by omega)
    have HC := Lib.hid (IH mid e b gg _ HOG.out hgF (by omega) h51 h52 h3 (Stab.good_perm (Stab.Perm.refl a mid gg) (show mid ≤ n by omega) hgg) hR2)
    have HP1 := Lib.hid (Stab.Perm.refl a mid gg)
    have HS1 := Lib.hid hs1
    have HHa := Lib.hid hha
    have HPr := Lib.hid hpr
    clear h5 hha hR2 hpr hgg
    go_wp2_with fail
    refine HC.out.mono ?_
    rintro e2 wz ⟨rfl, ⟨k2, hp2, hs2, ho2⟩, hg2⟩
    obtain ⟨hpe, hse⟩ := Stab.halves_end HHa.out.cross HP1.out hp2 HS1.out hs2 (by omega) (by omega)
    have HF := Lib.hid (show ∃ k, Stab.Perm a b f k ∧ Stab.Srt cf a b k ∧ Own6 c B 55 g n cap k wz from ⟨k2, HPr.out.trans hpe, hse, ho2⟩)
    clear hp2 hs2 ho2 hpe hse
    go_wp2_with fail
    go_end0
    exact ⟨rfl, HF.out, hg2⟩
   have hs2 : Stab.Srt cf mid b gg := Stab.half_one hR2 (by omega)
   obtain ⟨hpe, hse⟩ := Stab.halves_end hha.cross (Stab.Perm.refl a mid gg) (Stab.Perm.refl mid b gg) hs1 hs2 (by omega) (by omega)
   have HF := Lib.hid (show ∃ k, Stab.Perm a b f k ∧ Stab.Srt cf a b k ∧ Own6 c B 55 g n cap k _ from ⟨gg, hpr.trans hpe, hse, HOG.out⟩)
   by_cases h51 : mid < e
   ·have h52 : ¬ e < b := fun h => h5 ⟨h51, h⟩
    have q7 : decide ((mid : Int) < (e : Int)) = true := decide_eq_true (by omega)
    have q7' : decide (mid < e) = true := decide_eq_true (by omega)
    have q8 : decide ((e : Int) < (b : Int)) = false := decide_eq_false (by omega)
    have q8' : decide (e < b) = false := decide_eq_false (by omega)
    clear h5 h51 h52 hha hR2 hpr hs2 hpe hse hgg
    go_wp2_with fail
    go_end0
    exact ⟨rfl, HF.out, hgF⟩
   have q7 : decide ((mid : Int) < (e : Int)) = false := decide_eq_false (by omega)
   have q7' : decide (mid < e) = false := decide_eq_false (by omega)
   clear h5 h51 hha hR2 hpr hs2 hpe hse hgg
   go_wp2_with fail
   go_end0
   exact ⟨rfl, HF.out, hgF⟩
end
end Go.Proofs.YtbgimpeklblcjaaGreatDoor

namespace Go.Proofs.YtbgimpeklblcjaaGreatDoor
open Go.RowKit
section
variable {β : Type} (c : Six β) (B g n cap : Nat) (w0 : World)
set_option maxRecDepth 100000 in
set_option maxHeartbeats 8000000 in
theorem symD (good : β → Prop) (cf : β → β → Int) (ho : OrdG cf) (gf : FuncId) (cb : Array Value) (eg : ∀ args w, (callFunc gf args).run Tryz.prog w = .ok (.enter gf args) w) (hcm : Cmp6 c Tryz.prog gf cb good cf w0 g)
  (f : Nat → β × Nat) (a m b : Nat) (w : World) (h : Own6 c B 55 g n cap f w) (hg : w0.grownBy w (some g)) (hm : a + 1 < m) (h2 : m + 1 < b) (h3 : b ≤ n) (hn : n ≤ 1000000) (h1c : ∀ x, ∀ v ∈ c.list x, v.oneCell' = true)
  (hgd : ∀ t, t < n → good (f t).1) (hr : Stab.Runs cf a m b f) (hmid : ¬ (a + b) / 2 < m)
  (IH : ∀ a' m' b' (f' : Nat → β × Nat) W, Own6 c B 55 g n cap f' W → w0.grownBy W (some g) → b' - a' < b - a → a' < m' → m' < b' → b' ≤ n → (∀ t, t < n → good (f' t).1) → Stab.Runs cf a' m' b' f' →
   Calls Tryz.prog 95 #[.slice (some ⟨g, 0, none⟩) n cap, .int .i64 (a' : Int), .int .i64 (m' : Int), .int .i64 (b' : Int), .func (.func gf) #[] cb] W fun e w' => e = .returned (.tuple #[]) ∧ (∃ k, Stab.Perm a' b' f' k ∧ Stab.Srt cf a' b' k ∧ Own6 c B 55 g n cap k w') ∧ w0.grownBy w' (some g)) :
  Calls Tryz.prog 95 #[.slice (some ⟨g, 0, none⟩) n cap, .int .i64 (a : Int), .int .i64 (m : Int), .int .i64 (b : Int), .func (.func gf) #[] cb] w fun e w' => e = .returned (.tuple #[]) ∧ (∃ k, Stab.Perm a b f k ∧ Stab.Srt cf a b k ∧ Own6 c B 55 g n cap k w') ∧ w0.grownBy w' (some g) := by
 have HO := Lib.hid h
 have HG := Lib.hid hg
 have H1 := Lib.hid h1c
 have HCM := Lib.hid hcm
 have HGd := Lib.hid hgd
 have HRn := Lib.hid hr
 obtain ⟨d, hd⟩ : ∃ d, m - a = d := ⟨_, rfl⟩
 have em : (m : Int) - (a : Int) = (d : Int) := by omega
 have q0 : ((d : Int) == 1) = false := by rw [beq_eq_false_iff_ne]; omega
 have q0' : (d == 1) = false := by rw [beq_eq_false_iff_ne]; omega
 obtain ⟨d2, hd2⟩ : ∃ d, b - m = d := ⟨_, rfl⟩
 have eb : (b : Int) - (m : Int) = (d2 : Int) := by omega
 have q1 : ((d2 : Int) == 1) = false := by rw [beq_eq_false_iff_ne]; omega
 have q1' : (d2 == 1) = false := by rw [beq_eq_false_iff_ne]; omega
 obtain ⟨s0, hs0⟩ : ∃ s, a + b = s := ⟨_, rfl⟩
 have es0 : (a : Int) + (b : Int) = (s0 : Int) := by omega
 rw [hs0] at hmid
 obtain ⟨mid, hmd⟩ : ∃ u, s0 / 2 = u := ⟨_, rfl⟩
 have emd : (s0 : Int) / 2 = (mid : Int) := by omega
 rw [hmd] at hmid
 obtain ⟨nn, hnn⟩ : ∃ u, mid + m = u := ⟨_, rfl⟩
 have enn : (mid : Int) + (m : Int) = (nn : Int) := by omega
 obtain ⟨pp, hpp⟩ : ∃ u, nn - 1 = u := ⟨_, rfl⟩
 have epp : (nn : Int) - 1 = (pp : Int) := by omega
 have hN : Stab.Nums a m b mid nn a m := ⟨by omega, by omega, by omega, by omega, hnn.symm, .inr ⟨by omega, rfl, rfl⟩⟩
 have qm : decide ((mid : Int) < (m : Int)) = false := decide_eq_false (by omega)
 have qm' : decide (mid < m) = false := decide_eq_false (by omega)
 have HNm := Lib.hid hN
 have HPp := Lib.hid hpp
 have hmn : mid ≤ n := by omega
 have hmb : mid < b := by omega
 have ham : a ≤ mid := by omega
 have hnn2 : nn ≤ 2 * n := by omega
 have hr0n : m ≤ n := by omega
 clear h hg h1c hcm hgd hr hd hd2 hs0 hmd hnn hpp hN hmid
 go_enter Tryz.func95, Tryz.ntmps95
 go_wp2_with fail
 go_loopw [20, 21] (fun i j wr => CuRel c B g n cap w0 cf nn a m f i j wr) (fun i j _ => (intOf j).toNat - (intOf i).toNat)
 case atStart => exact ⟨a, m, rfl, rfl, Stab.cut_start HNm.out f, HO.out, HG.out⟩
 case round =>
  obtain ⟨k, l, rfl, rfl, hsk, hown, hgr⟩ := hrel
  have hk1 := hsk.1
  have hk2 := hsk.2.1
  have hk3 := hsk.2.2.1
  have HSk := Lib.hid hsk
  clear hsk
  by_cases hlt : k < l
  ·obtain ⟨s, hs⟩ : ∃ s, k + l = s := ⟨_, rfl⟩
   have es : (k : Int) + (l : Int) = (s : Int) := by omega
   obtain ⟨ct, hct⟩ : ∃ u, s / 2 = u := ⟨_, rfl⟩
   have ect : (s : Int) / 2 = (ct : Int) := by omega
   have hku : k ≤ ct := by omega
   have hul : ct < l := by omega
   obtain ⟨c1, c2, c3, c4, c5⟩ := Stab.cut_in HNm.out (show a ≤ ct by omega) (show ct < m by omega)
   obtain ⟨u, hu⟩ : ∃ u, nn - 1 - ct = u := ⟨_, rfl⟩
   have eu : (pp : Int) - (ct : Int) = (u : Int) := by have := HPp.out; omega
   have hun : u < n := by omega
   have hvn : ct < n := by omega
   have hidv : (f ct).2 < (f u).2 := HRn.out.2.2 ct u c1 c2 (by omega) (by omega)
   have HU := Lib.hid hu
   clear hs hct hu c1 c2 c3 c4 c5
   have hdr := grown_below hgr (Below.refl _ _).drew
   have hod : Own6 c B 55 g n cap f wr.drew := hown.below c (Below.refl _ _).drew
   have hst := hod.two c hun hvn
   have hgu := HGd.out u hun
   have hgv := HGd.out ct hvn
   obtain ⟨X, hX⟩ : ∃ X, (f u).1 = X := ⟨_, rfl⟩
   obtain ⟨Y, hY⟩ : ∃ Y, (f ct).1 = Y := ⟨_, rfl⟩
   obtain ⟨r, hr⟩ : ∃ r, cf X Y = r := ⟨_, rfl⟩
   rw [hX, hY] at hst
   rw [hX] at hgu
   rw [hY] at hgv
   have HCm : Hid (∀ W, Below wr.drew.heap.size wr.drew W → Calls Tryz.prog gf (#[c.val X, c.val Y] ++ cb) W fun e w' => e = .returned (.int .i64 r) ∧ Below W.heap.size W w') := fun W hW => by
    rw [← hr]; exact HCM.out W (grown_below hdr hW) X Y hgu hgv
   have HYes : Hid (r < 0 → Stab.lt cf (f u) (f ct)) := by
    show _ → _
    exact fun h => (Stab.lt_back hidv).2 (by rw [hX, hY, hr]; exact h)
   have HNo : Hid (0 ≤ r → Stab.lt cf (f ct) (f u)) := by
    show _ → _
    exact fun h => Stab.lt_not ho hidv (by rw [hX, hY, hr]; omega)
   have HOd := Lib.hid hod
   obtain ⟨lb, hlb⟩ : ∃ lb, decide (r < 0) = lb := ⟨_, rfl⟩
   have uw : IntKind.i64.wrap (u : Int) = (u : Int) := by rw [IntKind.wrap_i64]; omega
   have u0 : (0 : Int) ≤ (u : Int) := by omega
   have u1 : (u : Int) < (n : Int) := by omega
   have v0 : (0 : Int) ≤ (ct : Int) := by omega
   have v1 : (ct : Int) < (n : Int) := by omega
   clear hod hX hY hr hgu hgv hidv hown
   go_wp2_with fail
   refine wp_region_held_drew (S := (fun W => Two6 c g u ct X Y wr.drew W)) (by kernel_rfl) (hst) (fun hHeld => ?_)
   refine wpAnyH_take (i := 0) (v := ?_) rfl (by kernel_rfl) (by kernel_rfl) (by kernel_rfl) (fun _ _ _ h => h) (Or.inl ⟨by kernel_rfl, ?_⟩) hHeld ?_
   rotate_left
   ·(rintro W ⟨⟨e0, e1, e2, e3, e4, e5⟩, ⟨f0, f1, f2, f3, f4, f5⟩, _⟩; go_simp; (try with_reducible rfl))
   (try simp only [Act.put, putL])
   refine wpAnyH_take (i := 1) (v := ?_) rfl (by kernel_rfl) (by kernel_rfl) (by kernel_rfl) (fun _ _ _ h => h) (Or.inl ⟨by kernel_rfl, ?_⟩) hHeld ?_
   rotate_left
   ·(rintro W ⟨⟨e0, e1, e2, e3, e4, e5⟩, ⟨f0, f1, f2, f3, f4, f5⟩, _⟩; go_simp; (try with_reducible rfl))
   (try simp only [Act.put, putL])
   refine wpAnyH_take (i := 2) (v := ?_) rfl (by kernel_rfl) (by kernel_rfl) (by kernel_rfl) (fun _ _ _ h => h) (Or.inl ⟨by kernel_rfl, ?_⟩) hHeld ?_
   rotate_left
   ·(rintro W ⟨⟨e0, e1, e2, e3, e4, e5⟩, ⟨f0, f1, f2, f3, f4, f5⟩, _⟩; go_simp; (try with_reducible rfl))
   (try simp only [Act.put, putL])
   refine wpAnyH_take (i := 3) (v := ?_) rfl (by kernel_rfl) (by kernel_rfl) (by kernel_rfl) (fun _ _ _ h => h) (Or.inl ⟨by kernel_rfl, ?_⟩) hHeld ?_
   rotate_left
   ·(rintro W ⟨⟨e0, e1, e2, e3, e4, e5⟩, ⟨f0, f1, f2, f3, f4, f5⟩, _⟩; go_simp; (try with_reducible rfl))
   (try simp only [Act.put, putL])
   refine wpAnyH_take (i := 4) (v := ?_) rfl (by kernel_rfl) (by kernel_rfl) (by kernel_rfl) (fun _ _ _ h => h) (Or.inl ⟨by kernel_rfl, ?_⟩) hHeld ?_
   rotate_left
   ·(rintro W ⟨⟨e0, e1, e2, e3, e4, e5⟩, ⟨f0, f1, f2, f3, f4, f5⟩, _⟩; go_simp; (try with_reducible rfl))
   (try simp only [Act.put, putL])
   refine wpAnyH_take (i := 5) (v := ?_) rfl (by kernel_rfl) (by kernel_rfl) (by kernel_rfl) (fun _ _ _ h => h) (Or.inl ⟨by kernel_rfl, ?_⟩) hHeld ?_
   rotate_left
   ·(rintro W ⟨⟨e0, e1, e2, e3, e4, e5⟩, ⟨f0, f1, f2, f3, f4, f5⟩, _⟩; go_simp; (try with_reducible rfl))
   (try simp only [Act.put, putL])
   refine wpAnyH_take (i := 6) (v := ?_) rfl (by kernel_rfl) (by kernel_rfl) (by kernel_rfl) (fun _ _ _ h => h) (Or.inl ⟨by kernel_rfl, ?_⟩) hHeld ?_
   rotate_left
   ·(rintro W ⟨⟨e0, e1, e2, e3, e4, e5⟩, ⟨f0, f1, f2, f3, f4, f5⟩, _⟩; go_simp; (try with_reducible rfl))
   (try simp only [Act.put, putL])
   refine wpAnyH_take (i := 7) (v := ?_) rfl (by kernel_rfl) (by kernel_rfl) (by kernel_rfl) (fun _ _ _ h => h) (Or.inl ⟨by kernel_rfl, ?_⟩) hHeld ?_
   rotate_left
   ·(rintro W ⟨⟨e0, e1, e2, e3, e4, e5⟩, ⟨f0, f1, f2, f3, f4, f5⟩, _⟩; go_simp; (try with_reducible rfl))
   (try simp only [Act.put, putL])
   refine wpAnyH_take (i := 8) (v := ?_) rfl (by kernel_rfl) (by kernel_rfl) (by kernel_rfl) (fun _ _ _ h => h) (Or.inl ⟨by kernel_rfl, ?_⟩) hHeld ?_
   rotate_left
   ·(rintro W ⟨⟨e0, e1, e2, e3, e4, e5⟩, ⟨f0, f1, f2, f3, f4, f5⟩, _⟩; go_simp; (try with_reducible rfl))
   (try simp only [Act.put, putL])
   refine wpAnyH_take (i := 9) (v := ?_) rfl (by kernel_rfl) (by kernel_rfl) (by kernel_rfl) (fun _ _ _ h => h) (Or.inl ⟨by kernel_rfl, ?_⟩) hHeld ?_
   rotate_left
   ·(rintro W ⟨⟨e0, e1, e2, e3, e4, e5⟩, ⟨f0, f1, f2, f3, f4, f5⟩, _⟩; go_simp; (try with_reducible rfl))
   (try simp only [Act.put, putL])
   refine wpAnyH_take (i := 10) (v := ?_) rfl (by kernel_rfl) (by kernel_rfl) (by kernel_rfl) (fun _ _ _ h => h) (Or.inl ⟨by kernel_rfl, ?_⟩) hHeld ?_
   rotate_left
   ·(rintro W ⟨⟨e0, e1, e2, e3, e4, e5⟩, ⟨f0, f1, f2, f3, f4, f5⟩, _⟩; go_simp; (try with_reducible rfl))
   (try simp only [Act.put, putL])
   refine wpAnyH_ready (rs := [11]) (by kernel_rfl) (by simp) ?_
   refine AllReadyH.cons rfl (fun K hK => ?_) AllReadyH.nil
   go_simp
   refine (keepS (Two6.on c) hHeld (HCm.out _ hHeld.2.2)).mono ?_
   rintro e w5 ⟨rfl, hk5⟩
   refine hK.out _ _ (hk5) (fun hHeld => ?_)
   clear hK K
   (try simp only [Act.put, putL])
   refine wpAnyH_take (i := 12) (v := ?_) rfl (by kernel_rfl) (by kernel_rfl) (by kernel_rfl) (fun _ _ _ h => h) (Or.inl ⟨by kernel_rfl, ?_⟩) hHeld ?_
   rotate_left
   ·(rintro W ⟨⟨e0, e1, e2, e3, e4, e5⟩, ⟨f0, f1, f2, f3, f4, f5⟩, _⟩; go_simp; (try with_reducible rfl))
   (try simp only [Act.put, putL])
   refine wpAnyH_take (i := 13) (v := ?_) rfl (by kernel_rfl) (by kernel_rfl) (by kernel_rfl) (fun _ _ _ h => h) (Or.inl ⟨by kernel_rfl, ?_⟩) hHeld ?_
   rotate_left
   ·(rintro W ⟨⟨e0, e1, e2, e3, e4, e5⟩, ⟨f0, f1, f2, f3, f4, f5⟩, _⟩; go_simp; (try with_reducible rfl))
   (try simp only [Act.put, putL])
   refine wpAnyH_done (by kernel_rfl) ?_ _
   have hgF := grown_below hdr hHeld.2.2
   have HOF := Lib.hid (HOd.out.below c hHeld.2.2)
   have HLb := Lib.hid hlb
   clear hHeld hst hlb uw u0 u1 v0 v1
   cases lb
   rotate_left
   ·have HS2 := Lib.hid (Stab.cut_dn ho HNm.out HRn.out HSk.out hku hul (by rw [HU.out]; exact HYes.out (of_decide_eq_true HLb.out)))
    go_wp2_with fail
    go_roundw
    case rel => exact ⟨k, ct, rfl, rfl, HS2.out, HOF.out, hgF⟩
    case measure => simp [intOf]; omega
   ·have HS2 := Lib.hid (Stab.cut_up ho HNm.out HRn.out HSk.out hku hul (by rw [HU.out]; exact HNo.out (Int.not_lt.1 (of_decide_eq_false HLb.out))))
    go_wp2_with fail
    go_roundw
    case rel => exact ⟨ct + 1, l, by go_num, rfl, HS2.out, HOF.out, hgF⟩
    case measure => simp [intOf]; omega
  ·have hkl : l = k := by omega
   have q2 : decide ((k : Int) < (l : Int)) = false := decide_eq_false (by omega)
   have q2' : decide (k < l) = false := decide_eq_false hlt
   have hcut := HSk.out
   rw [hkl] at hcut
   obtain ⟨s, hks⟩ : ∃ s, s = k := ⟨_, rfl⟩
   subst hks
   obtain ⟨hsm, hme, hha⟩ := Stab.cut_halves ho HNm.out HRn.out hcut
   obtain ⟨e, he⟩ : ∃ e, nn - s = e := ⟨_, rfl⟩
   rw [he] at hme hha
   have hse0 : s ≤ nn := by omega
   have ee : (nn : Int) - (s : Int) = (e : Int) := by omega
   have hpr := (Stab.perm_rot f (m := m) (i := m - s) (j := e - m) (by omega)).mono (show a ≤ m - (m - s) by have := hha.as; omega) (show m + (e - m) ≤ b by have := hha.eb; omega)
   obtain ⟨gg, hggd⟩ : ∃ gg, Stab.rot f m (m - s) (e - m) = gg := ⟨_, rfl⟩
   rw [hggd] at hha hpr
   have hgg := Stab.good_perm hpr h3 HGd.out
   have p1 := hha.as
   have p2 := hha.sm
   have p3 := hha.me
   have p4 := hha.eb
   have HGgd := Lib.hid hggd
   have HHalf := Lib.hid hha
   have HPrm := Lib.hid hpr
   have HGood := Lib.hid hgg
   have HOF := Lib.hid hown
   have hgF := hgr
   clear hkl hlt hcut he hha hpr hggd hgg hown hgr hse0
   by_cases h6 : s < m ∧ m < e
   ·have h61 := h6.1
    have h62 := h6.2
    have q3 : decide ((s : Int) < (m : Int)) = true := decide_eq_true (by omega)
    have q3' : decide (s < m) = true := decide_eq_true (by omega)
    have q4 : decide ((m : Int) < (e : Int)) = true := decide_eq_true (by omega)
    have q4' : decide (m < e) = true := decide_eq_true (by omega)
    have HC := Lib.hid (rotate_any c B g n cap w0 f s m e (.func (.func gf) #[] cb) _ HOF.out hgF h61 h62 (by omega) hn H1.out)
    rw [HGgd.out] at HC
    clear h6
    go_wp2_with fail
    refine HC.out.mono ?_
    rintro e0 wx ⟨rfl, ho0, hg0⟩
    have hha := HHalf.out
    have hpr := HPrm.out
    have hgg := HGood.out
    by_cases h4 : a < s ∧ s < mid
    ·have h41 := h4.1
     have h42 := h4.2
     have q5 : decide ((a : Int) < (s : Int)) = true := decide_eq_true (by omega)
     have q5' : decide (a < s) = true := decide_eq_true (by omega)
     have q6 : decide ((s : Int) < (mid : Int)) = true := decide_eq_true (by omega)
     have q6' : decide (s < mid) = true := decide_eq_true (by omega)
     have HC := Lib.hid (IH a s mid gg wx ho0 hg0 (by omega) h41 h42 (by omega) hgg hha.left)
     have HHa := Lib.hid hha
     have HPr := Lib.hid hpr
     have HGg := Lib.hid hgg
     clear h4 hha hpr hgg
     go_wp2_with fail
     refine HC.out.mono ?_
     rintro e1 wy ⟨rfl, ⟨k1, hp1, hs1, ho1⟩, hg1⟩
     have hha := HHa.out
     have hpr := HPr.out
     have hgg := HGg.out
     have hR2 := Stab.runs_perm hha.me hha.eb hha.right hp1 (.inl (Nat.le_refl _))
     by_cases h5 : mid < e ∧ e < b
     ·have h51 := h5.1
      have h52 := h5.2
      have q7 : decide ((mid : Int) < (e : Int)) = true := decide_eq_true (by omega)
      have q7' : decide (mid < e) = true := decide_eq_true (by omega)
      have q8 : decide ((e : Int) < (b : Int)) = true := decide_eq_true (by omega)
      have q8' : decide (e < b) = true := decide_eq_true (by omega)
      have HC := Lib.hid (IH mid e b k1 wy ho1 hg1 (by omega) h51 h52 h3 (Stab.good_perm hp1 (show mid ≤ n by omega) hgg) hR2)
      have HP1 := Lib.hid hp1
      have HS1 := Lib.hid hs1
      have HHa := Lib.hid hha
      have HPr := Lib.hid hpr
      clear h5 hha hR2 hpr hgg
      go_wp2_with fail
      refine HC.out.mono ?_
      rintro e2 wz ⟨rfl, ⟨k2, hp2, hs2, ho2⟩, hg2⟩
      obtain ⟨hpe, hse⟩ := Stab.halves_end HHa.out.cross HP1.out hp2 HS1.out hs2 (by omega) (by omega)
      have HF := Lib.hid (show ∃ k, Stab.Perm a b f k ∧ Stab.Srt cf a b k ∧ Own6 c B 55 g n cap k wz from ⟨k2, HPr.out.trans hpe, hse, ho2⟩)
      clear hp2 hs2 ho2 hpe hse
      go_wp2_with fail
      go_end0
      exact ⟨rfl, HF.out, hg2⟩
     have hs2 : Stab.Srt cf mid b k1 := Stab.half_one hR2 (by omega)
     obtain ⟨hpe, hse⟩ := Stab.halves_end hha.cross hp1 (Stab.Perm.refl mid b k1) hs1 hs2 (by omega) (by omega)
     have HF := Lib.hid (show ∃ k, Stab.Perm a b f k ∧ Stab.Srt cf a b k ∧ Own6 c B 55 g n cap k wy from ⟨k1, hpr.trans hpe, hse, ho1⟩)
     by_cases h51 : mid < e
     ·have h52 : ¬ e < b := fun h => h5 ⟨h51, h⟩
      have q7 : decide ((mid : Int) < (e : Int)) = true := decide_eq_true (by omega)
      have q7' : decide (mid < e) = true := decide_eq_true (by omega)
      have q8 : decide ((e : Int) < (b : Int)) = false := decide_eq_false (by omega)
      have q8' : decide (e < b) = false := decide_eq_false (by omega)
      clear h5 h51 h52 hha hR2 hpr hs2 hpe hse hgg
      go_wp2_with fail
      go_end0
      exact ⟨rfl, HF.out, hg1⟩
     have q7 : decide ((mid : Int) < (e : Int)) = false := decide_eq_false (by omega)
     have q7' : decide (mid < e) = false := decide_eq_false (by omega)
     clear h5 h51 hha hR2 hpr hs2 hpe hse hgg
     go_wp2_with fail
     go_end0
     exact ⟨rfl, HF.out, hg1⟩
    have hs1 : Stab.Srt cf a mid gg := Stab.half_one hha.left (by omega)
    by_cases h41 : a < s
    ·have h42 : ¬ s < mid := fun h => h4 ⟨h41, h⟩
     have q5 : decide ((a : Int) < (s : Int)) = true := decide_eq_true (by omega)
     have q5' : decide (a < s) = true := decide_eq_true (by omega)
     have q6 : decide ((s : Int) < (mid : Int)) = false := decide_eq_false (by omega)
     have q6' : decide (s < mid) = false := decide_eq_false (by omega)
     clear h4 h41 h42
     have hR2 := Stab.runs_perm hha.me hha.eb hha.right (Stab.Perm.refl a mid gg) (.inl (Nat.le_refl _))
     by_cases h5 : mid < e ∧ e < b
     ·have h51 := h5.1
      have h52 := h5.2
      have q7 : decide ((mid : Int) < (e : Int)) = true := decide_eq_true (by omega)
      have q7' : decide (mid < e) = true := decide_eq_true (by omega)
      have q8 : decide ((e : Int) < (b : Int)) = true := decide_eq_true (by omega)
      have q8' : decide (e < b) = true := decide_eq_true (by omega)
      have HC := Lib.hid (IH mid e b gg wx ho0 hg0 (by omega) h51 h52 h3 (Stab.good_perm (Stab.Perm.refl a mid gg) (show mid ≤ n by omega) hgg) hR2)
      have HP1 := Lib.hid (Stab.Perm.refl a mid gg)
      have HS1 := Lib.hid hs1
      have HHa := Lib.hid hha
      have HPr := Lib.hid hpr
      clear h5 hha hR2 hpr hgg
      go_wp2_with fail
      refine HC.out.mono ?_
      rintro e2 wz ⟨rfl, ⟨k2, hp2, hs2, ho2⟩, hg2⟩
      obtain ⟨hpe, hse⟩ := Stab.halves_end HHa.out.cross HP1.out hp2 HS1.out hs2 (by omega) (by omega)
      have HF := Lib.hid (show ∃ k, Stab.Perm a b f k ∧ Stab.Srt cf a b k ∧ Own6 c B 55 g n cap k wz from ⟨k2, HPr.out.trans hpe, hse, ho2⟩)
      clear hp2 hs2 ho2 hpe hse
      go_wp2_with fail
      go_end0
      exact ⟨rfl, HF.out, hg2⟩
     have hs2 : Stab.Srt cf mid b gg := Stab.half_one hR2 (by omega)
     obtain ⟨hpe, hse⟩ := Stab.halves_end hha.cross (Stab.Perm.refl a mid gg) (Stab.Perm.refl mid b gg) hs1 hs2 (by omega) (by omega)
     have HF := Lib.hid (show ∃ k, Stab.Perm a b f k ∧ Stab.Srt cf a b k ∧ Own6 c B 55 g n cap k wx from ⟨gg, hpr.trans hpe, hse, ho0⟩)
     by_cases h51 : mid < e
     ·have h52 : ¬ e < b := fun h => h5 ⟨h51, h⟩
      have q7 : decide ((mid : Int) < (e : Int)) = true := decide_eq_true (by omega)
      have q7' : decide (mid < e) = true := decide_eq_true (by omega)
      have q8 : decide ((e : Int) < (b : Int)) = false := decide_eq_false (by omega)
      have q8' : decide (e < b) = false := decide_eq_false (by omega)
      clear h5 h51 h52 hha hR2 hpr hs2 hpe hse hgg
      go_wp2_with fail
      go_end0
      exact ⟨rfl, HF.out, hg0⟩
     have q7 : decide ((mid : Int) < (e : Int)) = false := decide_eq_false (by omega)
     have q7' : decide (mid < e) = false := decide_eq_false (by omega)
     clear h5 h51 hha hR2 hpr hs2 hpe hse hgg
     go_wp2_with fail
     go_end0
     exact ⟨rfl, HF.out, hg0⟩
    have q5 : decide ((a : Int) < (s : Int)) = false := decide_eq_false (by omega)
    have q5' : decide (a < s) = false := decide_eq_false (by omega)
    clear h4 h41
    have hR2 := Stab.runs_perm hha.me hha.eb hha.right (Stab.Perm.refl a mid gg) (.inl (Nat.le_refl _))
    by_cases h5 : mid < e ∧ e < b
    ·have h51 := h5.1
     have h52 := h5.2
     have q7 : decide ((mid : Int) < (e : Int)) = true := decide_eq_true (by omega)
     have q7' : decide (mid < e) = true := decide_eq_true (by omega)
     have q8 : decide ((e : Int) < (b : Int)) = true := decide_eq_true (by omega)
     have q8' : decide (e < b) = true := decide_eq_true (by omega)
     have HC := Lib.hid (IH mid e b gg wx ho0 hg0 (by omega) h51 h52 h3 (Stab.good_perm (Stab.Perm.refl a mid gg) (show mid ≤ n by omega) hgg) hR2)
     have HP1 := Lib.hid (Stab.Perm.refl a mid gg)
     have HS1 := Lib.hid hs1
     have HHa := Lib.hid hha
     have HPr := Lib.hid hpr
     clear h5 hha hR2 hpr hgg
     go_wp2_with fail
     refine HC.out.mono ?_
     rintro e2 wz ⟨rfl, ⟨k2, hp2, hs2, ho2⟩, hg2⟩
     obtain ⟨hpe, hse⟩ := Stab.halves_end HHa.out.cross HP1.out hp2 HS1.out hs2 (by omega) (by omega)
     have HF := Lib.hid (show ∃ k, Stab.Perm a b f k ∧ Stab.Srt cf a b k ∧ Own6 c B 55 g n cap k wz from ⟨k2, HPr.out.trans hpe, hse, ho2⟩)
     clear hp2 hs2 ho2 hpe hse
     go_wp2_with fail
     go_end0
     exact ⟨rfl, HF.out, hg2⟩
    have hs2 : Stab.Srt cf mid b gg := Stab.half_one hR2 (by omega)
    obtain ⟨hpe, hse⟩ := Stab.halves_end hha.cross (Stab.Perm.refl a mid gg) (Stab.Perm.refl mid b gg) hs1 hs2 (by omega) (by omega)
    have HF := Lib.hid (show ∃ k, Stab.Perm a b f k ∧ Stab.Srt cf a b k ∧ Own6 c B 55 g n cap k wx from ⟨gg, hpr.trans hpe, hse, ho0⟩)
    by_cases h51 : mid < e
    ·have h52 : ¬ e < b := fun h => h5 ⟨h51, h⟩
     have q7 : decide ((mid : Int) < (e : Int)) = true := decide_eq_true (by omega)
     have q7' : decide (mid < e) = true := decide_eq_true (by omega)
     have q8 : decide ((e : Int) < (b : Int)) = false := decide_eq_false (by omega)
     have q8' : decide (e < b) = false := decide_eq_false (by omega)
     clear h5 h51 h52 hha hR2 hpr hs2 hpe hse hgg
     go_wp2_with fail
     go_end0
     exact ⟨rfl, HF.out, hg0⟩
    have q7 : decide ((mid : Int) < (e : Int)) = false := decide_eq_false (by omega)
    have q7' : decide (mid < e) = false := decide_eq_false (by omega)
    clear h5 h51 hha hR2 hpr hs2 hpe hse hgg
    go_wp2_with fail
    go_end0
    exact ⟨rfl, HF.out, hg0⟩
   have hgf : gg = f := by
    rw [← HGgd.out]
    by_cases hx : s < m
    ·have : ¬ m < e := fun h => h6 ⟨hx, h⟩
     rw [show e - m = 0 by omega]; exact Stab.rot_none' _ _ _
    ·rw [show m - s = 0 by omega]; exact Stab.rot_none _ _ _
   have hown := HOF.out
   rw [← hgf] at hown
   have HOG := Lib.hid hown
   have hha := HHalf.out
   have hpr := HPrm.out
   have hgg := HGood.out
   by_cases h61 : s < m
   ·have h62 : ¬ m < e := fun h => h6 ⟨h61, h⟩
    have q3 : decide ((s : Int) < (m : Int)) = true := decide_eq_true (by omega)
    have q3' : decide (s < m) = true := decide_eq_true (by omega)
    have q4 : decide ((m : Int) < (e : Int)) = false := decide_eq_false (by omega)
    have q4' : decide (m < e) = false := decide_eq_false (by omega)
    clear h6 h61 h62 hgf hown
    by_cases h4 : a < s ∧ s < mid
    ·have h41 := h4.1
     have h42 := h4.2
     have q5 : decide ((a : Int) < (s : Int)) = true := decide_eq_true (by omega)
     have q5' : decide (a < s) = true := decide_eq_true (by omega)
     have q6 : decide ((s : Int) < (mid : Int)) = true := decide_eq_true (by omega)
     have q6' : decide (s < mid) = true := decide_eq_true (by omega)
     have HC := Lib.hid (IH a s mid gg _ HOG.out hgF (by omega) h41 h42 (by omega) hgg hha.left)
     have HHa := Lib.hid hha
     have HPr := Lib.hid hpr
     have HGg := Lib.hid hgg
     clear h4 hha hpr hgg
     go_wp2_with fail
     refine HC.out.mono ?_
     rintro e1 wy ⟨rfl, ⟨k1, hp1, hs1, ho1⟩, hg1⟩
     have hha := HHa.out
     have hpr := HPr.out
     have hgg := HGg.out
     have hR2 := Stab.runs_perm hha.me hha.eb hha.right hp1 (.inl (Nat.le_refl _))
     by_cases h5 : mid < e ∧ e < b
     ·have h51 := h5.1
      have h52 := h5.2
      have q7 : decide ((mid : Int) < (e : Int)) = true := decide_eq_true (by omega)
      have q7' : decide (mid < e) = true := decide_eq_true (by omega)
      have q8 : decide ((e : Int) < (b : Int)) = true := decide_eq_true (by omega)
      have q8' : decide (e < b) = true := decide_eq_true (by omega)
      have HC := Lib.hid (IH mid e b k1 wy ho1 hg1 (by omega) h51 h52 h3 (Stab.good_perm hp1 (show mid ≤ n by omega) hgg) hR2)
      have HP1 := Lib.hid hp1
      have HS1 := Lib.hid hs1
      have HHa := Lib.hid hha
      have HPr := Lib.hid hpr
      clear h5 hha hR2 hpr hgg
      go_wp2_with fail
      refine HC.out.mono ?_
      rintro e2 wz ⟨rfl, ⟨k2, hp2, hs2, ho2⟩, hg2⟩
      obtain ⟨hpe, hse⟩ := Stab.halves_end HHa.out.cross HP1.out hp2 HS1.out hs2 (by omega) (by omega)
      have HF := Lib.hid (show ∃ k, Stab.Perm a b f k ∧ Stab.Srt cf a b k ∧ Own6 c B 55 g n cap k wz from ⟨k2, HPr.out.trans hpe, hse, ho2⟩)
      clear hp2 hs2 ho2 hpe hse
      go_wp2_with fail
      go_end0
      exact ⟨rfl, HF.out, hg2⟩
     have hs2 : Stab.Srt cf mid b k1 := Stab.half_one hR2 (by omega)
     obtain ⟨hpe, hse⟩ := Stab.halves_end hha.cross hp1 (Stab.Perm.refl mid b k1) hs1 hs2 (by omega) (by omega)
     have HF := Lib.hid (show ∃ k, Stab.Perm a b f k ∧ Stab.Srt cf a b k ∧ Own6 c B 55 g n cap k wy from ⟨k1, hpr.trans hpe, hse, ho1⟩)
     by_cases h51 : mid < e
     ·have h52 : ¬ e < b := fun h => h5 ⟨h51, h⟩
      have q7 : decide ((mid : Int) < (e : Int)) = true := decide_eq_true (by omega)
      have q7' : decide (mid < e) = true := decide_eq_true (by omega)
      have q8 : decide ((e : Int) < (b : Int)) = false := decide_eq_false (by omega)
      have q8' : decide (e < b) = false := decide_eq_false (by omega)
      clear h5 h51 h52 hha hR2 hpr hs2 hpe hse hgg
      go_wp2_with fail
      go_end0
      exact ⟨rfl, HF.out, hg1⟩
     have q7 : decide ((mid : Int) < (e : Int)) = false := decide_eq_false (by omega)
     have q7' : decide (mid < e) = false := decide_eq_false (by omega)
     clear h5 h51 hha hR2 hpr hs2 hpe hse hgg
     go_wp2_with fail
     go_end0
     exact ⟨rfl, HF.out, hg1⟩
    have hs1 : Stab.Srt cf a mid gg := Stab.half_one hha.left (by omega)
    by_cases h41 : a < s
    ·have h42 : ¬ s < mid := fun h => h4 ⟨h41, h⟩
     have q5 : decide ((a : Int) < (s : Int)) = true := decide_eq_true (by omega)
     have q5' : decide (a < s) = true := decide_eq_true (by omega)
     have q6 : decide ((s : Int) < (mid : Int)) = false := decide_eq_false (by omega)
     have q6' : decide (s < mid) = false := decide_eq_false (by omega)
     clear h4 h41 h42
     have hR2 := Stab.runs_perm hha.me hha.eb hha.right (Stab.Perm.refl a mid gg) (.inl (Nat.le_refl _))
     by_cases h5 : mid < e ∧ e < b
     ·have h51 := h5.1
      have h52 := h5.2
      have q7 : decide ((mid : Int) < (e : Int)) = true := decide_eq_true (by omega)
      have q7' : decide (mid < e) = true := decide_eq_true (by omega)
      have q8 : decide ((e : Int) < (b : Int)) = true := decide_eq_true (by omega)
      have q8' : decide (e < b) = true := decide_eq_true (by omega)
      have HC := Lib.hid (IH mid e b gg _ HOG.out hgF (by omega) h51 h52 h3 (Stab.good_perm (Stab.Perm.refl a mid gg) (show mid ≤ n by omega) hgg) hR2)
      have HP1 := Lib.hid (Stab.Perm.refl a mid gg)
      have HS1 := Lib.hid hs1
      have HHa := Lib.hid hha
      have HPr := Lib.hid hpr
      clear h5 hha hR2 hpr hgg
      go_wp2_with fail
      refine HC.out.mono ?_
      rintro e2 wz ⟨rfl, ⟨k2, hp2, hs2, ho2⟩, hg2⟩
      obtain ⟨hpe, hse⟩ := Stab.halves_end HHa.out.cross HP1.out hp2 HS1.out hs2 (by omega) (by omega)
      have HF := Lib.hid (show ∃ k, Stab.Perm a b f k ∧ Stab.Srt cf a b k ∧ Own6 c B 55 g n cap k wz from ⟨k2, HPr.out.trans hpe, hse, ho2⟩)
      clear hp2 hs2 ho2 hpe hse
      go_wp2_with fail
      go_end0
      exact ⟨rfl, HF.out, hg2⟩
     have hs2 : Stab.Srt cf mid b gg := Stab.half_one hR2 (by omega)
     obtain ⟨hpe, hse⟩ := Stab.halves_end hha.cross (Stab.Perm.refl a mid gg) (Stab.Perm.refl mid b gg) hs1 hs2 (by omega) (by omega)
     have HF := Lib.hid (show ∃ k, Stab.Perm a b f k ∧ Stab.Srt cf a b k ∧ Own6 c B 55 g n cap k _ from ⟨gg, hpr.trans hpe, hse, HOG.out⟩)
     by_cases h51 : mid < e
     ·have h52 : ¬ e < b := fun h => h5 ⟨h51, h⟩
      have q7 : decide ((mid : Int) < (e : Int)) = true := decide_eq_true (by omega)
      have q7' : decide (mid < e) = true := decide_eq_true (by omega)
      have q8 : decide ((e : Int) < (b : Int)) = false := decide_eq_false (by omega)
      have q8' : decide (e < b) = false := decide_eq_false (by omega)
      clear h5 h51 h52 hha hR2 hpr hs2 hpe hse hgg
      go_wp2_with fail
      go_end0
      exact ⟨rfl, HF.out, hgF⟩
     have q7 : decide ((mid : Int) < (e : Int)) = false := decide_eq_false (by omega)
     have q7' : decide (mid < e) = false := decide_eq_false (by omega)
     clear h5 h51 hha hR2 hpr hs2 hpe hse hgg
     go_wp2_with fail
     go_end0
     exact ⟨rfl, HF.out, hgF⟩
    have q5 : decide ((a : Int) < (s : Int)) = false := decide_eq_false (by omega)
    have q5' : decide (a < s) = false := decide_eq_false (by omega)
    clear h4 h41
    have hR2 := Stab.runs_perm hha.me hha.eb hha.right (Stab.Perm.refl a mid gg) (.inl (Nat.le_refl _))
    by_cases h5 : mid < e ∧ e < b
    ·have h51 := h5.1
     have h52 := h5.2
     have q7 : decide ((mid : Int) < (e : Int)) = true := decide_eq_true (by omega)
     have q7' : decide (mid < e) = true := decide_eq_true (by omega)
     have q8 : decide ((e : Int) < (b : Int)) = true := decide_eq_true (by omega)
     have q8' : decide (e < b) = true := decide_eq_true (by omega)
     have HC := Lib.hid (IH mid e b gg _ HOG.out hgF (by omega) h51 h52 h3 (Stab.good_perm (Stab.Perm.refl a mid gg) (show mid ≤ n by omega) hgg) hR2)
     have HP1 := Lib.hid (Stab.Perm.refl a mid gg)
     have HS1 := Lib.hid hs1
     have HHa := Lib.hid hha
     have HPr := Lib.hid hpr
     clear h5 hha hR2 hpr hgg
     go_wp2_with fail
     refine HC.out.mono ?_
     rintro e2 wz ⟨rfl, ⟨k2, hp2, hs2, ho2⟩, hg2⟩
     obtain ⟨hpe, hse⟩ := Stab.halves_end HHa.out.cross HP1.out hp2 HS1.out hs2 (by omega) (by omega)
     have HF := Lib.hid (show ∃ k, Stab.Perm a b f k ∧ Stab.Srt cf a b k ∧ Own6 c B 55 g n cap k wz from ⟨k2, HPr.out.trans hpe, hse, ho2⟩)
     clear hp2 hs2 ho2 hpe hse
     go_wp2_with fail
     go_end0
     exact ⟨rfl, HF.out, hg2⟩
    have hs2 : Stab.Srt cf mid b gg := Stab.half_one hR2 (by omega)
    obtain ⟨hpe, hse⟩ := Stab.halves_end hha.cross (Stab.Perm.refl a mid gg) (Stab.Perm.refl mid b gg) hs1 hs2 (by omega) (by omega)
    have HF := Lib.hid (show ∃ k, Stab.Perm a b f k ∧ Stab.Srt cf a b k ∧ Own6 c B 55 g n cap k _ from ⟨gg, hpr.trans hpe, hse, HOG.out⟩)
    by_cases h51 : mid < e
    ·have h52 : ¬ e < b := fun h => h5 ⟨h51, h⟩
     have q7 : decide ((mid : Int) < (e : Int)) = true := decide_eq_true (by omega)
     have q7' : decide (mid < e) = true := decide_eq_true (by omega)
     have q8 : decide ((e : Int) < (b : Int)) = false := decide_eq_false (by omega)
     have q8' : decide (e < b) = false := decide_eq_false (by omega)
     clear h5 h51 h52 hha hR2 hpr hs2 hpe hse hgg
     go_wp2_with fail
     go_end0
     exact ⟨rfl, HF.out, hgF⟩
    have q7 : decide ((mid : Int) < (e : Int)) = false := decide_eq_false (by omega)
    have q7' : decide (mid < e) = false := decide_eq_false (by omega)
    clear h5 h51 hha hR2 hpr hs2 hpe hse hgg
    go_wp2_with fail
    go_end0
    exact ⟨rfl, HF.out, hgF⟩
   have q3 : decide ((s : Int) < (m : Int)) = false := decide_eq_false (by omega)
   have q3' : decide (s < m) = false := decide_eq_false (by omega)
   clear h6 h61 hgf hown
   by_cases h4 : a < s ∧ s < mid
   ·have h41 := h4.1
    have h42 := h4.2
    have q5 : decide ((a : Int) < (s : Int)) = true := decide_eq_true (by omega)
    have q5' : decide (a < s) = true := decide_eq_true (by omega)
    have q6 : decide ((s : Int) < (mid : Int)) = true := decide_eq_true (by omega)
    have q6' : decide (s < mid) = true := decide_eq_true (by omega)
    have HC := Lib.hid (IH a s mid gg _ HOG.out hgF (by omega) h41 h42 (by omega) hgg hha.left)
    have HHa := Lib.hid hha
    have HPr := Lib.hid hpr
    have HGg := Lib.hid hgg
    clear h4 hha hpr hgg
    go_wp2_with fail
    refine HC.out.mono ?_
    rintro e1 wy ⟨rfl, ⟨k1, hp1, hs1, ho1⟩, hg1⟩
    have hha := HHa.out
    have hpr := HPr.out
    have hgg := HGg.out
    have hR2 := Stab.runs_perm hha.me hha.eb hha.right hp1 (.inl (Nat.le_refl _))
    by_cases h5 : mid < e ∧ e < b
    ·have h51 := h5.1
     have h52 := h5.2
     have q7 : decide ((mid : Int) < (e : Int)) = true := decide_eq_true (by omega)
     have q7' : decide (mid < e) = true := decide_eq_true (by omega)
     have q8 : decide ((e : Int) < (b : Int)) = true := decide_eq_true (by omega)
     have q8' : decide (e < b) = true := decide_eq_true (by omega)
     have HC := Lib.hid (IH mid e b k1 wy ho1 hg1 (by omega) h51 h52 h3 (Stab.good_perm hp1 (show mid ≤ n by omega) hgg) hR2)
     have HP1 := Lib.hid hp1
     have HS1 := Lib.hid hs1
     have HHa := Lib.hid hha
     have HPr := Lib.hid hpr
     clear h5 hha hR2 hpr hgg
     go_wp2_with fail
     refine HC.out.mono ?_
     rintro e2 wz ⟨rfl, ⟨k2, hp2, hs2, ho2⟩, hg2⟩
     obtain ⟨hpe, hse⟩ := Stab.halves_end HHa.out.cross HP1.out hp2 HS1.out hs2 (by omega) (by omega)
     have HF := Lib.hid (show ∃ k, Stab.Perm a b f k ∧ Stab.Srt cf a b k ∧ Own6 c B 55 g n cap k wz from ⟨k2, HPr.out.trans hpe, hse, ho2⟩)
     clear hp2 hs2 ho2 hpe hse
     go_wp2_with fail
     go_end0
     exact ⟨rfl, HF.out, hg2⟩
    have hs2 : Stab.Srt cf mid b k1 := Stab.half_one hR2 (by omega)
    obtain ⟨hpe, hse⟩ := Stab.halves_end hha.cross hp1 (Stab.Perm.refl mid b k1) hs1 hs2 (by omega) (by omega)
    have HF := Lib.hid (show ∃ k, Stab.Perm a b f k ∧ Stab.Srt cf a b k ∧ Own6 c B 55 g n cap k wy from ⟨k1, hpr.trans hpe, hse, ho1⟩)
    by_cases h51 : mid < e
    ·have h52 : ¬ e < b := fun h => h5 ⟨h51, h⟩
     have q7 : decide ((mid : Int) < (e : Int)) = true := decide_eq_true (by omega)
     have q7' : decide (mid < e) = true := decide_eq_true (by omega)
     have q8 : decide ((e : Int) < (b : Int)) = false := decide_eq_false (by omega)
     have q8' : decide (e < b) = false := decide_eq_false (by omega)
     clear h5 h51 h52 hha hR2 hpr hs2 hpe hse hgg
     go_wp2_with fail
     go_end0
     exact ⟨rfl, HF.out, hg1⟩
    have q7 : decide ((mid : Int) < (e : Int)) = false := decide_eq_false (by omega)
    have q7' : decide (mid < e) = false := decide_eq_false (by omega)
    clear h5 h51 hha hR2 hpr hs2 hpe hse hgg
    go_wp2_with fail
    go_end0
    exact ⟨rfl, HF.out, hg1⟩
   have hs1 : Stab.Srt cf a mid gg := Stab.half_one hha.left (by omega)
   by_cases h41 : a < s
   ·have h42 : ¬ s < mid := fun h => h4 ⟨h41, h⟩
    have q5 : decide ((a : Int) < (s : Int)) = true := decide_eq_true (by omega)
    have q5' : decide (a < s) = true := decide_eq_true (by omega)
    have q6 : decide ((s : Int) < (mid : Int)) = false := decide_eq_false (by omega)
    have q6' : decide (s < mid) = false := decide_eq_false (by omega)
    clear h4 h41 h42
    have hR2 := Stab.runs_perm hha.me hha.eb hha.right (Stab.Perm.refl a mid gg) (.inl (Nat.le_refl _))
    by_cases h5 : mid < e ∧ e < b
    ·have h51 := h5.1
     have h52 := h5.2
     have q7 : decide ((mid : Int) < (e : Int)) = true := decide_eq_true (by omega)
     have q7' : decide (mid < e) = true := decide_eq_true (by omega)
     have q8 : decide ((e : Int) < (b : Int)) = true := decide_eq_true (by omega)
     have q8' : decide (e < b) = true := decide_eq_true (by omega)
     have HC := Lib.hid (IH mid e b gg _ HOG.out hgF (by omega) h51 h52 h3 (Stab.good_perm (Stab.Perm.refl a mid gg) (show mid ≤ n by omega) hgg) hR2)
     have HP1 := Lib.hid (Stab.Perm.refl a mid gg)
     have HS1 := Lib.hid hs1
     have HHa := Lib.hid hha
     have HPr := Lib.hid hpr
     clear h5 hha hR2 hpr hgg
     go_wp2_with fail
     refine HC.out.mono ?_
     rintro e2 wz ⟨rfl, ⟨k2, hp2, hs2, ho2⟩, hg2⟩
     obtain ⟨hpe, hse⟩ := Stab.halves_end HHa.out.cross HP1.out hp2 HS1.out hs2 (by omega) (by omega)
     have HF := Lib.hid (show ∃ k, Stab.Perm a b f k ∧ Stab.Srt cf a b k ∧ Own6 c B 55 g n cap k wz from ⟨k2, HPr.out.trans hpe, hse, ho2⟩)
     clear hp2 hs2 ho2 hpe hse
     go_wp2_with fail
     go_end0
     exact ⟨rfl, HF.out, hg2⟩
    have hs2 : Stab.Srt cf mid b gg := Stab.half_one hR2 (by omega)
    obtain ⟨hpe, hse⟩ := Stab.halves_end hha.cross (Stab.Perm.refl a mid gg) (Stab.Perm.refl mid b gg) hs1 hs2 (by omega) (by omega)
    have HF := Lib.hid (show ∃ k, Stab.Perm a b f k ∧ Stab.Srt cf a b k ∧ Own6 c B 55 g n cap k _ from ⟨gg, hpr.trans hpe, hse, HOG.out⟩)
    by_cases h51 : mid < e
    ·have h52 : ¬ e < b := fun h => h5 ⟨h51, h⟩
     have q7 : decide ((mid : Int) < (e : Int)) = true := decide_eq_true (by omega)
     have q7' : decide (mid < e) = true := decide_eq_true (by omega)
     have q8 : decide ((e : Int) < (b : Int)) = false := decide_eq_false (by omega)
     have q8' : decide (e < b) = false := decide_eq_false (by omega)
     clear h5 h51 h52 hha hR2 hpr hs2 hpe hse hgg
     go_wp2_with fail
     go_end0
     exact ⟨rfl, HF.out, hgF⟩
    have q7 : decide ((mid : Int) < (e : Int)) = false := decide_eq_false (by omega)
    have q7' : decide (mid < e) = false := decide_eq_false (by omega)
    clear h5 h51 hha hR2 hpr hs2 hpe hse hgg
    go_wp2_with fail
    go_end0
    exact ⟨rfl, HF.out, hgF⟩
   have q5 : decide ((a : Int) < (s : Int)) = false := decide_eq_false (by omega)
   have q5' : decide (a < s) = false := decide_eq_false (by omega)
   clear h4 h41
   have hR2 := Stab.runs_perm hha.me hha.eb hha.right (Stab.Perm.refl a mid gg) (.inl (Nat.le_refl _))
   by_cases h5 : mid < e ∧ e < b
   ·have h51 := h5.1
    have h52 := h5.2
    have q7 : decide ((mid : Int) < (e : Int)) = true := decide_eq_true (by omega)
    have q7' : decide (mid < e) = true := decide_eq_true (by omega)
    have q8 : decide ((e : Int) < (b : Int)) = true := decide_eq_true (by omega)
    have q8' : decide (e < b) = true := decide_eq_true (by omega)
    have HC := Lib.hid (IH mid e b gg _ HOG.out hgF (by omega) h51 h52 h3 (Stab.good_perm (Stab.Perm.refl a mid gg) (show mid ≤ n by omega) hgg) hR2)
    have HP1 := Lib.hid (Stab.Perm.refl a mid gg)
    have HS1 := Lib.hid hs1
    have HHa := Lib.hid hha
    have HPr := Lib.hid hpr
    clear h5 hha hR2 hpr hgg
    go_wp2_with fail
    refine HC.out.mono ?_
    rintro e2 wz ⟨rfl, ⟨k2, hp2, hs2, ho2⟩, hg2⟩
    obtain ⟨hpe, hse⟩ := Stab.halves_end HHa.out.cross HP1.out hp2 HS1.out hs2 (by omega) (by omega)
    have HF := Lib.hid (show ∃ k, Stab.Perm a b f k ∧ Stab.Srt cf a b k ∧ Own6 c B 55 g n cap k wz from ⟨k2, HPr.out.trans hpe, hse, ho2⟩)
    clear hp2 hs2 ho2 hpe hse
    go_wp2_with fail
    go_end0
    exact ⟨rfl, HF.out, hg2⟩
   have hs2 : Stab.Srt cf mid b gg := Stab.half_one hR2 (by omega)
   obtain ⟨hpe, hse⟩ := Stab.halves_end hha.cross (Stab.Perm.refl a mid gg) (Stab.Perm.refl mid b gg) hs1 hs2 (by omega) (by omega)
   have HF := Lib.hid (show ∃ k, Stab.Perm a b f k ∧ Stab.Srt cf a b k ∧ Own6 c B 55 g n cap k _ from ⟨gg, hpr.trans hpe, hse, HOG.out⟩)
   by_cases h51 : mid < e
   ·have h52 : ¬ e < b := fun h => h5 ⟨h51, h⟩
    have q7 : decide ((mid : Int) < (e : Int)) = true := decide_eq_true (by omega)
    have q7' : decide (mid < e) = true := decide_eq_true (by omega)
    have q8 : decide ((e : Int) < (b : Int)) = false := decide_eq_false (by omega)
    have q8' : decide (e < b) = false := decide_eq_false (by omega)
    clear h5 h51 h52 hha hR2 hpr hs2 hpe hse hgg
    go_wp2_with fail
    go_end0
    exact ⟨rfl, HF.out, hgF⟩
   have q7 : decide ((mid : Int) < (e : Int)) = false := decide_eq_false (by omega)
   have q7' : decide (mid < e) = false := decide_eq_false (by omega)
   clear h5 h51 hha hR2 hpr hs2 hpe hse hgg
   go_wp2_with fail
   go_end0
   exact ⟨rfl, HF.out, hgF⟩
end
end Go.Proofs.YtbgimpeklblcjaaGreatDoor
