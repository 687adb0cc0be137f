/- Declarations that only the laws against the reference reach. The reference of Solve: the next assignment: the walk. The reference of Solve: assignment by assignment: the walk. -/
import Derived.Test.YtbgimpeklblcjaaGreatDoorBase
import Derived.Test.YtbgimpeklblcjaaGreatDoorChCounts
import Derived.Test.YtbgimpeklblcjaaGreatDoorSolPlains
import Derived.Test.YtbgimpeklblcjaaGreatDoorRefsS
import Derived.Test.YtbgimpeklblcjaaGreatDoorSolRow
import Derived.Maps.AppendAt
import Derived.Test.YtbgimpeklblcjaaGreatDoorTabRefs
import Derived.Test.YtbgimpeklblcjaaGreatDoorRefChk
import Derived.Test.YtbgimpeklblcjaaGreatDoorSol9
namespace Go
theorem flatW_get {l : List (List Nat)} : ∀ (k a r : Nat), r < l.length → (flatW k l)[a * l.length + r]? = if a < k then (l[r]?).map (a :: ·) else none
 | 0, a, r, _ => by simp [flatW_zero]
 | k + 1, a, r, hr => by
  rw [flatW_succ]
  by_cases hk : a < k
  ·have h1 : a * l.length + r < (flatW k l).length := by
    rw [flatW_len]
    calc a * l.length + r < a * l.length + l.length := by omega
     _ = (a + 1) * l.length := by rw [Nat.succ_mul]
     _ ≤ k * l.length := Nat.mul_le_mul_right _ hk
   rw [List.getElem?_append_left h1, flatW_get k a r hr, if_pos hk, if_pos (by omega)]
  ·have h1 : (flatW k l).length ≤ a * l.length + r := by
    rw [flatW_len]
    have : k * l.length ≤ a * l.length := Nat.mul_le_mul_right _ (by omega)
    omega
   rw [List.getElem?_append_right h1, flatW_len, List.getElem?_map]
   by_cases hk2 : a = k
   ·subst hk2
    rw [if_pos (by omega), show a * l.length + r - a * l.length = r by omega]
   ·rw [if_neg (by omega)]
    have h2 : l.length ≤ a * l.length + r - k * l.length := by
     have : (k + 1) * l.length ≤ a * l.length := Nat.mul_le_mul_right _ (by omega)
     rw [Nat.succ_mul] at this
     omega
    rw [List.getElem?_eq_none h2]; rfl
/-! the next one -/
theorem prodL_pos {ks : List Nat} (h : ∀ k ∈ ks, 0 < k) : 0 < prodL ks := by
 induction ks with
 | nil => exact Nat.one_pos
 | cons k ks ih => exact Nat.mul_pos (h k List.mem_cons_self) (ih fun x hx => h x (List.mem_cons_of_mem _ hx))
theorem allW_first : ∀ {ks : List Nat}, (∀ k ∈ ks, 0 < k) → (allW ks)[0]? = some (zerosN ks.length)
 | [], _ => rfl
 | k :: ks, h => by
  have hp := prodL_pos fun x hx => h x (List.mem_cons_of_mem k hx)
  have h0 := h k List.mem_cons_self
  have := flatW_get (l := allW ks) k 0 0 (by rw [allW_len]; exact hp)
  rw [Nat.zero_mul, Nat.zero_add, if_pos h0, allW_first fun x hx => h x (List.mem_cons_of_mem k hx)] at this
  rw [allW_cons, this]; rfl
theorem allW_next : ∀ {ks : List Nat}, (∀ k ∈ ks, 0 < k) → ∀ (r : Nat) (ws : List Nat), (allW ks)[r]? = some ws → nextL ks ws = (allW ks)[r + 1]?
 | [], _, r, ws, h => by
  cases r with
  | zero => simp [allW] at h; subst h; rfl
  | succ r => simp [allW] at h
 | k :: ks, hp, r, ws, h => by
  have hp' : ∀ x ∈ ks, 0 < x := fun x hx => hp x (List.mem_cons_of_mem k hx)
  have hN : 0 < (allW ks).length := by rw [allW_len]; exact prodL_pos hp'
  rw [allW_cons] at h ⊢
  obtain ⟨N, hNe⟩ : ∃ N, (allW ks).length = N := ⟨_, rfl⟩
  have hr : r = r / N * N + r % N := by rw [Nat.mul_comm]; exact (Nat.div_add_mod r N).symm
  have hm : r % N < (allW ks).length := by rw [hNe]; exact Nat.mod_lt _ (by omega)
  rw [hr, ← hNe, flatW_get k _ _ (by rw [hNe] at hm ⊢; exact hm)] at h
  split at h
  case isFalse => cases h
  case isTrue ha =>
   rw [hNe] at h ha
   have hg := List.getElem?_eq_getElem hm
   obtain ⟨y, hy⟩ : ∃ y, (allW ks)[r % N] = y := ⟨_, rfl⟩
   rw [hg, hy] at h
   rw [hy] at hg
   simp only [Option.map_some, Option.some.injEq] at h
   subst h
   have ih := allW_next hp' _ _ hg
   unfold nextL
   rw [ih]
   by_cases hl : r % N + 1 < N
   ·have h1 : r + 1 = r / N * (allW ks).length + (r % N + 1) := by rw [hNe]; omega
    rw [h1, flatW_get k _ _ (by rw [hNe]; exact hl), if_pos ha, List.getElem?_eq_getElem (by rw [hNe]; exact hl)]
    rfl
   ·have hm2 : r % N < N := by rw [hNe] at hm; exact hm
    have h1 : r + 1 = (r / N + 1) * (allW ks).length + 0 := by rw [hNe, Nat.succ_mul]; omega
    rw [h1, flatW_get k _ _ hN, List.getElem?_eq_none (by rw [hNe]; omega), allW_first hp']
    rfl
/-- from its end on -/
theorem nextL_lift : ∀ (i : Nat) (ks ws x : List Nat), nextL (ks.drop i) (ws.drop i) = some x → nextL ks ws = some (ws.take i ++ x)
 | 0, ks, ws, x, h => by simpa using h
 | i + 1, [], ws, x, h => by simp [nextL] at h
 | i + 1, k :: ks, [], x, h => by
  simp only [List.drop_succ_cons, List.drop_nil] at h
  cases hk : ks.drop i with
  | nil => rw [hk] at h; simp [nextL] at h
  | cons a b => rw [hk] at h; simp [nextL] at h
 | i + 1, k :: ks, a :: ws, x, h => by
  have := nextL_lift i ks ws x (by simpa using h)
  unfold nextL
  rw [this]; rfl
theorem nextL_at {ks ws : List Nat} {i : Nat} {a k : Nat} (ha : ws[i]? = some a) (hk : ks[i]? = some k) (h : nextL (ks.drop (i + 1)) (ws.drop (i + 1)) = none) :
  nextL (ks.drop i) (ws.drop i) = if a + 1 < k then some ((a + 1) :: zerosN (ks.length - (i + 1))) else none := by
 obtain ⟨h1, h2⟩ := List.getElem?_eq_some_iff.1 ha
 obtain ⟨h3, h4⟩ := List.getElem?_eq_some_iff.1 hk
 rw [List.drop_eq_getElem_cons h1, List.drop_eq_getElem_cons h3, h2, h4]
 conv => lhs; unfold nextL
 rw [h, List.length_drop]
theorem nextL_end (ks ws : List Nat) {n : Nat} (hk : ks.length ≤ n) : nextL (ks.drop n) (ws.drop n) = none := by
 rw [List.drop_eq_nil_of_le hk]; simp [nextL]
/-! what is told -/
/-! the number of ways -/
end Go

namespace Go
open Go.RowKit
theorem row_from {w : World} {size m c : Nat} {ao : Option Addr} {xs : List Value} (h : Row w size (.slice ao m c) m xs) : m = 0 ∨ ∃ ad, ao = some ad ∧ ∀ j u, xs[j]? = some u → w.cell? (ad.add j) = some u := by
 obtain ⟨h1, _, ⟨a, cap, h3, h4, _⟩ | ⟨b, off, cap, h3, h4, h5, h6⟩⟩ := h
 ·exact .inl h4
 ·injection h3 with h3 _ _
  refine .inr ⟨_, h3, fun j u hj => ?_⟩
  have hjl : j < m * size := by rw [← h1]; exact (List.getElem?_eq_some_iff.1 hj).1
  rw [show (⟨b, off, none⟩ : Addr).add j = ⟨b, off + j, none⟩ by simp [Addr.add], h6 j hjl, hj]
theorem next_row {ws : List Nat} {p a n : Nat} (hl : ws.length = n) (hp : p < n) : (ws.take p ++ (a + 1) :: zerosN (n - (p + 1))).length = n ∧ ∀ j (hj : j < (ws.take p ++ (a + 1) :: zerosN (n - (p + 1))).length), (ws.take p ++ (a + 1) :: zerosN (n - (p + 1)))[j] = if j = p then a + 1 else if j < p + 1 then ws.getD j 0 else 0 := by
 have ht : (ws.take p).length = p := by rw [List.length_take]; omega
 have h1 : (ws.take p ++ (a + 1) :: zerosN (n - (p + 1))).length = n := by
  rw [List.length_append, ht, List.length_cons]; unfold zerosN; rw [List.length_replicate]; omega
 refine ⟨h1, fun j hj => ?_⟩
 rcases Nat.lt_trichotomy j p with h | h | h
 ·rw [List.getElem_append_left (by omega), List.getElem_take, if_neg (by omega), if_pos (by omega), List.getD_eq_getElem?_getD, List.getElem?_eq_getElem (by omega)]; rfl
 ·subst h
  rw [List.getElem_append_right (by omega), if_pos rfl]
  simp [ht]
 ·rw [List.getElem_append_right (by omega), if_neg (by omega), if_neg (by omega)]
  obtain ⟨d, hd⟩ : ∃ d, j - (ws.take p).length = d + 1 := ⟨j - p - 1, by omega⟩
  simp only [hd, List.getElem_cons_succ]
  unfold zerosN
  rw [List.getElem_replicate]
/-- what the region looks at -/
def NxS (g k y : Nat) (bt ot : Nat) (nm ov : Value) (w0 W : World) : Prop := W.cell? ⟨g, k, none⟩ = some (.int .i64 ((y : Int) + 1)) ∧ W.cell? ⟨bt, ot, none⟩ = some nm ∧ W.cell? ⟨bt, ot + 1, none⟩ = some ov ∧ Below w0.heap.size w0 W
theorem NxS.on {g k y bt ot : Nat} {nm ov : Value} {w0 W W' : World} (h : NxS g k y bt ot nm ov w0 W) (hb : Below W.heap.size W W') : NxS g k y bt ot nm ov w0 W' := ⟨cell_on h.1 hb, cell_on h.2.1 hb, cell_on h.2.2.1 hb, below_then h.2.2.2 hb⟩
end Go
namespace Go.Proofs.YtbgimpeklblcjaaGreatDoor
open Go.RowKit Go.Maps
def NextPost (ks ws : List Nat) (w : World) (e : Ending) (w' : World) : Prop :=
 ((∃ v ws', e = .returned (.tuple #[v, .bool true]) ∧ nextL ks ws = some ws' ∧ WayRow w' v ws') ∨ (e = .returned (.tuple #[.slice none 0 0, .bool false]) ∧ nextL ks ws = none)) ∧ Below w.heap.size w w'
def NtRel (ks ws : List Nat) (n g : Nat) (w : World) (i : Value) (wr : World) : Prop :=
 ∃ j : Nat, j ≤ n ∧ ((j = 0 ∧ i = .int .i64 (-1)) ∨ ∃ p : Nat, j = p + 1 ∧ i = .int .i64 (p : Int)) ∧ RowN g 3 n (fun t => if t < j then ws.getD t 0 else 0) wr ∧ Below w.heap.size w wr ∧ nextL (ks.drop j) (ws.drop j) = none
set_option maxRecDepth 100000 in
set_option maxHeartbeats 8000000 in
theorem rnext_as (tv wv nv : Value) (ts : List DPack) (ws : List Nat) (needs : List (Want × Value)) (w : World) (ht : Packs w tv ts) (hw : WayRow w wv ws) (hn : Wants w nv needs) (hiw : IsW (ksOf (askN needs) (ppL ts)) ws) (hB : TabB (ppL ts)) (h0 : 0 < ts.length) :
  Calls Tryz.prog 55 #[tv, wv, nv] w (NextPost (ksOf (askN needs) (ppL ts)) ws w) := by
 obtain ⟨hmx, a0, cap0, rfl⟩ := ht.len
 obtain ⟨_, a1, cap1, rfl⟩ := hw.len
 obtain ⟨_, a2, cap2, rfl⟩ := hn.len
 have hn6 : ts.length ≤ 1000000 := by have := hB.few; rwa [ppL_len] at this
 have hl : ws.length = ts.length := by rw [hiw.1]; unfold ksOf; rw [List.length_map, ppL_len]
 obtain ⟨i0', hi, hq0, hq1, hq2⟩ := info_of info_int
 have hsrc := row_from hw
 have hown0 : (w.alloc (.cells #[] 3)).ownsRow w.heap.size 3 1 (.slice (some ⟨w.heap.size, 0, none⟩) 0 0) 0 [] := World.ownsRow_made (base := w.heap.size) (size := 1) (e := 3) w #[] 0 (Nat.le_refl _) (by decide) rfl
 have hal := (Below.refl w.heap.size w).alloc (Nat.le_refl _) (.cells #[] 3)
 rw [hl] at hsrc
 obtain ⟨ad, rfl, hnews⟩ : ∃ ad, a1 = some ad ∧ ∀ j u, (ws.map fun a : Nat => Value.int .i64 (a : Int))[j]? = some u → (w.alloc (.cells #[] 3)).cell? (ad.add j) = some u := by
  have hs2 := row_from (Row.below hw hal (Nat.le_refl _))
  rcases hs2 with h | ⟨ad, h1, h2⟩
  ·omega
  ·exact ⟨ad, h1, h2⟩
 have HT := Lib.hid ht
 have HW := Lib.hid hw
 have HN := Lib.hid hn
 have HL := Lib.hid hl
 have HB := Lib.hid hB
 have HIw := Lib.hid hiw
 have HAl := Lib.hid hal
 rw [hl]
 clear ht hw hn hmx hl hB hiw hsrc hal
 go_enter Tryz.func55, Tryz.ntmps55
 go_wp2_with (at_builtin; go_must (refine wpList_append_own_at _ rfl _ _ 89 rfl w.heap.size 3 i0' (.int .i64 0) 1 8 Tryz.underlying89 hi hq0 hq1 hq2 rfl (by decide) _ _ _ rfl hown0 ad ts.length cap1 (ws.map fun a : Nat => Value.int .i64 (a : Int)) rfl (by rw [List.length_map, HL.out, Nat.mul_one]) hnews (by intro u hu; obtain ⟨a, _, rfl⟩ := List.mem_map.1 hu; rfl) (by unfold maxLen; omega) (by omega) (by simp) ?_))
 intro v' w' hown hgr hne _
 have hbA := below_grown HAl.out hown0 hgr (by simp)
 rcases hown.2 with ⟨h, _⟩ | ⟨g, cap, cur, rfl, hg, hblk, hnc, _, hsz, htk⟩
 ·exact absurd h hne
 rw [Nat.mul_one] at htk
 have HR := Lib.hid (RowN.of hblk HL.out htk)
 have HBw := Lib.hid hbA
 have HGg := Lib.hid hg
 have hkz : IntKind.i64.wrap ((ts.length : Int) - 1) = ((ts.length - 1 : Nat) : Int) := by rw [IntKind.wrap_i64]; omega
 have HKs : Hid ((ksOf (askN needs) (ppL ts)).length = ts.length) := by show _ = _; unfold ksOf; rw [List.length_map, ppL_len]
 clear hown hgr hne hbA hg hblk hsz htk hown0 hnews hi hq0 hq1 hq2
 go_wp2_with fail
 go_loopw [9] (fun i wr => NtRel (ksOf (askN needs) (ppL ts)) ws ts.length g w i wr) (fun i _ => (intOf i + 1).toNat)
 case atStart => exact ⟨ts.length, Nat.le_refl _, .inr ⟨ts.length - 1, by omega, rfl⟩, HR.out, HBw.out, nextL_end _ _ (by rw [HKs.out]; exact Nat.le_refl _)⟩
 case round =>
  obtain ⟨j, hj, hi, hR, hb, hnx⟩ := hrel
  rcases hi with ⟨rfl, rfl⟩ | ⟨p, rfl, rfl⟩
  ·have HF : Hid (nextL (ksOf (askN needs) (ppL ts)) ws = none) := hnx
   have HB2 := Lib.hid hb
   clear hnx hR hb
   go_wp2_with fail
   go_ret2
   exact ⟨.inr ⟨rfl, HF.out⟩, HB2.out⟩
  have hlt : p < ts.length := by omega
  obtain ⟨a, ha⟩ : ∃ a, ws[p]? = some a := ⟨_, List.getElem?_eq_getElem (by rw [HL.out]; exact hlt)⟩
  have hks := ks_at' (needs := needs) hlt
  have hal := HIw.out.2 p a _ ha hks
  have hosl : ts[p].os.length ≤ 1000000 := by
   have h1 : p < (ppL ts).length := by rw [ppL_len]; exact hlt
   have := (HB.out.os _ (List.getElem_mem h1)).1
   rw [ppL_at h1 hlt] at this
   have h2 : (List.map DOff.po ts[p].os).length ≤ 1000000 := this
   rwa [List.length_map] at h2
  have hnk := nam_at ts hlt
  have hat := nextL_at ha hks hnx
  have r5 : wr.cell? ⟨g, p, none⟩ = some (.int .i64 (a : Int)) := by
   have h := hR.cell hlt
   rw [if_pos (Nat.lt_succ_self p), List.getD_eq_getElem?_getD, ha] at h
   exact h
  have fr5 := hR.free p
  have hz5 := hR.lt
  obtain ⟨bx, ox, rfl, hbx, c0, c1⟩ := HT.out.at' hb hlt
  generalize ts[p]'hlt = pk at hks hal hosl hnk hat c0 c1
  obtain ⟨xn, xo, xa, xc⟩ := pk
  simp only [DPack.ov] at hks hal hosl hnk hat c0 c1
  obtain ⟨m, hm⟩ : ∃ m, xo.length + (if askN needs (namL (ppL ts) p) = true then 0 else 1) = m := ⟨_, rfl⟩
  rw [hm] at hks hal hat
  have hm6 : m ≤ 1000001 := by rw [← hm]; split <;> omega
  have HM := Lib.hid hm
  have HAt := Lib.hid hat
  have ha6 : a ≤ 1000001 := by omega
  have hp0 : (0 : Int) ≤ (p : Int) := by omega
  have hp1 : (p : Int) < (ts.length : Int) := by omega
  have hwa : IntKind.i64.wrap ((a : Int) + 1) = (a : Int) + 1 := by rw [IntKind.wrap_i64]; omega
  have hR6 := hR.set (i := p) (a + 1) (v := (a : Int) + 1) (by omega) (f' := fun t => if t = p then a + 1 else if t < p + 1 then ws.getD t 0 else 0) (fun t _ => rfl)
  have HR6 := Lib.hid hR6
  have hb6 : Below w.heap.size w (wr.setCell ⟨g, p, none⟩ (.int .i64 ((a : Int) + 1))) := hb.setCell HGg.out _
  have HB6 := Lib.hid hb6
  have hc0 := (World.cell?_setCell_far wr ⟨g, p, none⟩ ⟨bx, ox + p * 2, none⟩ (.int .i64 ((a : Int) + 1)) (fun e => by have := HGg.out; simp only at e; omega)).trans c0
  have hc1 := (World.cell?_setCell_far wr ⟨g, p, none⟩ ⟨bx, ox + p * 2 + 1, none⟩ (.int .i64 ((a : Int) + 1)) (fun e => by have := HGg.out; simp only at e; omega)).trans c1
  have HC := Lib.hid (⟨hc0, hc1⟩ : _ ∧ _)
  have HXo := Lib.hid hosl
  have HNk := Lib.hid hnk
  have hqi : ∃ q : Int, IntKind.i64.wrap ((p : Int) - 1) = q ∧ ((p = 0 ∧ q = -1) ∨ ∃ p' : Nat, p = p' + 1 ∧ q = (p' : Int)) ∧ (q + 1).toNat < ((p : Int) + 1).toNat := by
   refine ⟨(p : Int) - 1, by rw [IntKind.wrap_i64]; omega, ?_, by omega⟩
   rcases Nat.eq_zero_or_pos p with h | h
   ·exact .inl ⟨h, by omega⟩
   ·exact .inr ⟨p - 1, by omega, by omega⟩
  obtain ⟨q, hq, hq2⟩ := hqi
  have HQ := Lib.hid hq2
  clear hnx hR hb hks hal hnk hat hosl hm hR6 hb6 hc0 hc1 c0 c1 ha hq2
  have HWy : Hid (∀ W, Below w.heap.size w W → Calls Tryz.prog 51 #[.agg #[.string xn, .slice xa xo.length xc], .slice a2 needs.length cap2] W fun e w' => e = .returned (.int .i64 (m : Int)) ∧ Below W.heap.size W w') := fun W hW => by
   refine rways_as xn xa xo.length xc _ needs m W (HN.out.below hW (Nat.le_refl _)) ?_ HXo.out
   rw [← HM.out, HNk.out]; rfl
  go_wp2_with fail
  generalize wr.setCell ⟨g, p, none⟩ (.int .i64 ((a : Int) + 1)) = w6 at *
  have hd := (Below.refl w6.heap.size w6).drew
  have hr6 := HR6.out.cell hlt
  rw [if_pos rfl] at hr6
  have hst : NxS g p a bx (ox + p * 2) (.string xn) (.slice xa xo.length xc) w w6.drew := ⟨cell_on hr6 hd, cell_on HC.out.1 hd, cell_on HC.out.2 hd, below_then HB6.out hd⟩
  clear hr6
  refine wp_region_held_drew (S := (fun W => NxS g p a bx (ox + p * 2) (.string xn) (.slice xa xo.length xc) w W)) (by kernel_rfl) (hst) (fun hHeld => ?_)
  refine wpAnyH_take (i := 0) (v := ?_) rfl (by kernel_rfl) (by kernel_rfl) (by kernel_rfl) (fun _ _ _ h => h) (Or.inl ⟨by kernel_rfl, ?_⟩) hHeld ?_
  rotate_left
  ·(rintro W ⟨e0, e1, e2, _⟩; go_simp; (try with_reducible rfl))
  (try simp only [Act.put, putL])
  refine wpAnyH_take (i := 1) (v := ?_) rfl (by kernel_rfl) (by kernel_rfl) (by kernel_rfl) (fun _ _ _ h => h) (Or.inl ⟨by kernel_rfl, ?_⟩) hHeld ?_
  rotate_left
  ·(rintro W ⟨e0, e1, e2, _⟩; go_simp; (try with_reducible rfl))
  (try simp only [Act.put, putL])
  refine wpAnyH_take (i := 2) (v := ?_) rfl (by kernel_rfl) (by kernel_rfl) (by kernel_rfl) (fun _ _ _ h => h) (Or.inl ⟨by kernel_rfl, ?_⟩) hHeld ?_
  rotate_left
  ·(rintro W ⟨e0, e1, e2, _⟩; go_simp; (try with_reducible rfl))
  (try simp only [Act.put, putL])
  refine wpAnyH_take (i := 3) (v := ?_) rfl (by kernel_rfl) (by kernel_rfl) (by kernel_rfl) (fun _ _ _ h => h) (Or.inl ⟨by kernel_rfl, ?_⟩) hHeld ?_
  rotate_left
  ·(rintro W ⟨e0, e1, e2, _⟩; go_simp; (try with_reducible rfl))
  (try simp only [Act.put, putL])
  refine wpAnyH_take (i := 4) (v := ?_) rfl (by kernel_rfl) (by kernel_rfl) (by kernel_rfl) (fun _ _ _ h => h) (Or.inl ⟨by kernel_rfl, ?_⟩) hHeld ?_
  rotate_left
  ·(rintro W ⟨e0, e1, e2, _⟩; go_simp; (try with_reducible rfl))
  (try simp only [Act.put, putL])
  refine wpAnyH_take (i := 5) (v := ?_) rfl (by kernel_rfl) (by kernel_rfl) (by kernel_rfl) (fun _ _ _ h => h) (Or.inl ⟨by kernel_rfl, ?_⟩) hHeld ?_
  rotate_left
  ·(rintro W ⟨e0, e1, e2, _⟩; go_simp; (try with_reducible rfl))
  (try simp only [Act.put, putL])
  refine wpAnyH_take (i := 6) (v := ?_) rfl (by kernel_rfl) (by kernel_rfl) (by kernel_rfl) (fun _ _ _ h => h) (Or.inl ⟨by kernel_rfl, ?_⟩) hHeld ?_
  rotate_left
  ·(rintro W ⟨e0, e1, e2, _⟩; go_simp; (try with_reducible rfl))
  (try simp only [Act.put, putL])
  refine wpAnyH_take (i := 7) (v := ?_) rfl (by kernel_rfl) (by kernel_rfl) (by kernel_rfl) (fun _ _ _ h => h) (Or.inl ⟨by kernel_rfl, ?_⟩) hHeld ?_
  rotate_left
  ·(rintro W ⟨e0, e1, e2, _⟩; go_simp; (try with_reducible rfl))
  (try simp only [Act.put, putL])
  refine wpAnyH_take (i := 8) (v := ?_) rfl (by kernel_rfl) (by kernel_rfl) (by kernel_rfl) (fun _ _ _ h => h) (Or.inl ⟨by kernel_rfl, ?_⟩) hHeld ?_
  rotate_left
  ·(rintro W ⟨e0, e1, e2, _⟩; go_simp; (try with_reducible rfl))
  (try simp only [Act.put, putL])
  refine wpAnyH_ready (rs := [9]) (by kernel_rfl) (by simp) ?_
  refine AllReadyH.cons rfl (fun K hK => ?_) AllReadyH.nil
  go_simp
  refine (HWy.out _ hHeld.2.2.2).mono ?_
  rintro e w12 ⟨rfl, hk12⟩
  refine hK.out _ _ (hHeld.on hk12) (fun hHeld => ?_)
  clear hK K
  (try simp only [Act.put, putL])
  refine wpAnyH_take (i := 10) (v := ?_) rfl (by kernel_rfl) (by kernel_rfl) (by kernel_rfl) (fun _ _ _ h => h) (Or.inl ⟨by kernel_rfl, ?_⟩) hHeld ?_
  rotate_left
  ·(rintro W ⟨e0, e1, e2, _⟩; go_simp; (try with_reducible rfl))
  (try simp only [Act.put, putL])
  refine wpAnyH_done (by kernel_rfl) ?_ _
  have hbE : Below w6.heap.size w6 w12 := hd.trans (hk12.mono hd.size)
  have HR7 := Lib.hid (HR6.out.on hbE)
  have HB7 := Lib.hid (below_then HB6.out hbE)
  clear hst hHeld hbE hk12 hd
  by_cases hlm : a + 1 < m
  ·have q5 : decide ((a : Int) + 1 < (m : Int)) = true := decide_eq_true (by omega)
   have q6 : (a : Int) + 1 < (m : Int) := by omega
   have hnr := next_row (a := a) HL.out hlt
   have hat := HAt.out
   rw [if_pos hlm, HKs.out] at hat
   have HF : Hid (NextPost (ksOf (askN needs) (ppL ts)) ws w (.returned (.tuple #[.slice (some ⟨g, 0, none⟩) ts.length cap, .bool true])) w12) :=
    ⟨.inl ⟨_, _, rfl, nextL_lift p _ _ _ hat, HR7.out.row hnr.1 hnr.2 (by omega) (by unfold maxLen; omega)⟩, HB7.out⟩
   clear hnr hat hlm
   go_wp2_with fail
   go_ret2
   exact HF.out
  ·have q5 : decide ((a : Int) + 1 < (m : Int)) = false := decide_eq_false (by omega)
   have q6 : ¬ (a : Int) + 1 < (m : Int) := by omega
   have hat := HAt.out
   rw [if_neg hlm] at hat
   have r8 : w12.cell? ⟨g, p, none⟩ = some (.int .i64 ((a : Int) + 1)) := by
    have h := HR7.out.cell hlt
    rw [if_pos rfl] at h
    exact h
   have fr8 := HR7.out.free p
   have hz8 := HR7.out.lt
   have HAt2 := Lib.hid hat
   have HR8 := Lib.hid (HR7.out.set (i := p) 0 (v := 0) rfl (f' := fun t => if t < p then ws.getD t 0 else 0) (fun t _ => by
    by_cases h1 : t < p
    ·rw [if_pos h1, if_neg (by omega), if_neg (by omega), if_pos (by omega)]
    ·rw [if_neg h1]
     by_cases h2 : t = p
     ·rw [if_pos h2]
     ·rw [if_neg h2, if_neg h2, if_neg (by omega)]))
   have HB8 : Hid (Below w.heap.size w (w12.setCell ⟨g, p, none⟩ (.int .i64 0))) := HB7.out.setCell HGg.out _
   clear hat hlm r5 fr5 hz5
   go_wp2_with fail
   go_roundw
   case rel => exact ⟨p, by omega, HQ.out.1.imp (fun h => ⟨h.1, by rw [h.2]⟩) (fun ⟨p', h1, h2⟩ => ⟨p', h1, by rw [h2]⟩), HR8.out, HB8.out, HAt2.out⟩
   case measure => exact HQ.out.2
end Go.Proofs.YtbgimpeklblcjaaGreatDoor

namespace Go
open Go.RowKit
theorem cell_blk {W W' : World} {b o : Nat} (h : W'.heap[b]? = W.heap[b]?) : W'.cell? ⟨b, o, none⟩ = W.cell? ⟨b, o, none⟩ := by simp [World.cell?, h]
/-- what the append of a pick reads -/
def ApR (bx q : Nat) (pn : ByteArray) (b2 : Nat) (v : V4) (w0 W : World) : Prop :=
 (W.cell? ⟨bx, q, none⟩ = some (.string pn) ∧ W.cell? ⟨b2, 0, none⟩ = some (.int .i64 v.a) ∧ W.cell? ⟨b2, 1, none⟩ = some (.int .i64 v.b) ∧ W.cell? ⟨b2, 2, none⟩ = some (.int .i64 v.c) ∧ W.cell? ⟨b2, 3, none⟩ = some (.string v.p)) ∧ Below w0.heap.size w0 W
theorem ApR.on {bx q : Nat} {pn : ByteArray} {b2 : Nat} {v : V4} {w0 W W' : World} (h : ApR bx q pn b2 v w0 W) (hb : Below W.heap.size W W') : ApR bx q pn b2 v w0 W' := by
 obtain ⟨⟨a0, b0, b1, b2, b3⟩, d⟩ := h
 exact ⟨⟨cell_on a0 hb, cell_on b0 hb, cell_on b1 hb, cell_on b2 hb, cell_on b3 hb⟩, below_then d hb⟩
theorem zeros_row {w w' : World} {T : TypeId} {n : Nat} (hr : w'.rowIs w.heap.size T n (fun _ => .int .i64 0)) (hm : n ≤ maxLen) : WayRow w' (.slice (some ⟨w.heap.size, 0, none⟩) n n) (zerosN n) := by
 have hl : (zerosN n).length = n := by unfold zerosN; simp
 rcases Nat.eq_zero_or_pos n with h | h
 ·subst h
  exact ⟨by simp [zerosN], Nat.zero_le _, .inl ⟨_, _, rfl, rfl, fun h => by cases h⟩⟩
 ·refine ⟨by simp, by rw [hl]; exact hm, .inr ⟨w.heap.size, 0, n, by rw [hl], by rw [hl]; exact h, hr.lt, fun j hj => ?_⟩⟩
  rw [hl, Nat.mul_one] at hj
  rw [Nat.zero_add, hr.cell hj, List.getElem?_map, List.getElem?_eq_getElem (by rw [hl]; exact hj)]
  simp [zerosN]
end Go
namespace Go.Proofs.YtbgimpeklblcjaaGreatDoor
open Go.RowKit Go.Maps
def RfaRel (ks : List Nat) (n : Nat) (w3 : World) (more i : Value) (wr : World) : Prop :=
 ∃ (k : Nat) (b : Bool), k ≤ n ∧ i = .int .i64 (k : Int) ∧ more = .bool b ∧ (ks.take k).all (fun x => decide (0 < x)) = b ∧ Below w3.heap.size w3 wr
def RfmRel (ks : List Nat) (g : List Nat → Prop) (bn : Nat) (w3 : World) (v more n : Value) (wr : World) : Prop :=
 ∃ (m : Nat) (b : Bool), m ≤ bn ∧ n = .int .i64 (m : Int) ∧ more = .bool b ∧ (∀ j (h : j < (allW ks).length), j < m → ¬ g (allW ks)[j]) ∧ (b = true → ∃ ws, (allW ks)[m]? = some ws ∧ WayRow wr v ws) ∧ (b = false → m = (allW ks).length) ∧ Below w3.heap.size w3 wr
def RfvRel (T : List PP) (ws : List Nat) (n : Nat) (w5 : World) (v i : Value) (wr : World) : Prop :=
 ∃ m : Nat, m ≤ n ∧ i = .int .i64 (m : Int) ∧ wr.ownsRow w5.heap.size 43 5 v (picksTo T ws m).length ((picksTo T ws m).flatMap Pik.cells) ∧ Below w5.heap.size w5 wr
set_option maxRecDepth 100000 in
set_option maxHeartbeats 8000000 in
theorem rsolve_as {lock : List Pik} {needs : List (Want × Value)} {ps : List DPack} {pk lk nv : Value} {w : World} (C : TabCtx lock needs ps pk lk nv w) (hB : ∀ ts, TableIs lock needs ps ts → TabB (ppL ts)) (bud : Int) (h0 : -9223372036854775808 ≤ bud) (h1 : bud ≤ 9223372036854775807) :
  Calls Tryz.prog 24 #[pk, lk, nv, .int .i64 bud] w (SolvePost lock needs ps bud w) := by
 have HC := Lib.hid C
 have HBt := Lib.hid hB
 obtain ⟨er, her⟩ : ∃ e, needErr needs = e := ⟨_, rfl⟩
 have hCk := rchCheck_any nv needs w C.wants (fun x hx => (C.nds x hx).2)
 rw [her] at hCk
 have HCk := Lib.hid hCk
 have HEr := Lib.hid her
 clear C hB hCk her
 go_enter Tryz.func24, Tryz.ntmps24
 go_wp2_with fail
 refine HCk.out.mono ?_
 rintro e w1 ⟨rfl, hb1⟩
 by_cases he : er = 0
 case neg =>
  have q0 : (er != 0) = true := bne_iff_ne.2 he
  have HF : Hid (SolvePost lock needs ps bud w (.returned (.tuple #[.slice none 0 0, .int .i64 0, .int .i64 er])) w1) :=
   ⟨_, [], 0, er, rfl, .inl ⟨by rw [HEr.out]; exact he, rfl, rfl, HEr.out.symm⟩, piks_nil _, hb1⟩
  clear he hb1
  go_wp2_with fail
  go_ret3
  exact HF.out
 subst he
 by_cases hlo : bud < 1
 ·have q1 : decide (bud < 1) = true := decide_eq_true hlo
  have HF : Hid (SolvePost lock needs ps bud w (.returned (.tuple #[.slice none 0 0, .int .i64 0, .int .i64 2])) w1) :=
   ⟨_, [], 0, 2, rfl, .inr (.inl ⟨HEr.out, .inl hlo, rfl, rfl, rfl⟩), piks_nil _, hb1⟩
  clear hlo hb1
  go_wp2_with fail
  go_ret3
  exact HF.out
 have q1 : decide (bud < 1) = false := decide_eq_false hlo
 by_cases hhi : 1000000 < bud
 ·have q2 : decide (1000000 < bud) = true := decide_eq_true hhi
  have HF : Hid (SolvePost lock needs ps bud w (.returned (.tuple #[.slice none 0 0, .int .i64 0, .int .i64 2])) w1) :=
   ⟨_, [], 0, 2, rfl, .inr (.inl ⟨HEr.out, .inr hhi, rfl, rfl, rfl⟩), piks_nil _, hb1⟩
  clear hlo hhi hb1
  go_wp2_with fail
  go_ret3
  exact HF.out
 have q2 : decide (1000000 < bud) = false := decide_eq_false hhi
 obtain ⟨bn, rfl⟩ : ∃ bn : Nat, bud = (bn : Int) := ⟨bud.toNat, by omega⟩
 have HTb := Lib.hid (rtable_any (HC.out.on hb1))
 have hbn1 : 1 ≤ bn := by omega
 have hbn6 : bn ≤ 1000000 := by omega
 have HBn := Lib.hid (⟨hbn1, hbn6⟩ : _ ∧ _)
 have HB1 := Lib.hid hb1
 clear hlo hhi h0 h1 hb1
 go_wp2_with fail
 refine HTb.out.mono ?_
 rintro e w2 ⟨tv, ts, rfl, hts, hti, hb2, hos⟩
 obtain ⟨hmx, ta, tc, rfl⟩ := hts.len
 have HBd := Lib.hid (HBt.out ts hti)
 have hn6 : ts.length ≤ 1000000 := by have := HBd.out.few; rwa [ppL_len] at this
 have HTW := Lib.hid (table_W hti)
 have HT := Lib.hid hts
 have HN := Lib.hid ((HC.out.on HB1.out).wants.below hb2 (Nat.le_refl _))
 have HB2 := Lib.hid (below_then HB1.out hb2)
 have hin : ∀ (r : Option (List Nat)) (n : Nat) (er : Int), SolTold (GoodW (ppL ts) (askN needs)) (allW (ksOf (askN needs) (ppL ts))) bn r n er → SolIs lock needs ps (bn : Int) ((r.map (picksL (ppL ts))).getD []) n er := fun r n er h =>
  .inr (.inr ⟨HEr.out, by omega, by omega, ts, hti, r, by rw [Int.toNat_natCast]; exact h, rfl⟩)
 have HIn := Lib.hid hin
 have hmk := fun W : World => run_make_row' (P := Tryz.prog) 89 3 (.int .i64 0) 8 Tryz.underlying89 info_int rfl .i64 .i64 ts.length (by omega) (by omega) W
 have HKl : Hid ((ksOf (askN needs) (ppL ts)).length = ts.length) := by show _ = _; unfold ksOf; rw [List.length_map, ppL_len]
 have HZr := Lib.hid (zeros_row (World.rowIs_made w2 (.int .i64 0) ts.length 3) (by unfold maxLen; omega))
 have hal3 := (Below.refl w2.heap.size w2).alloc (Nat.le_refl _) (.cells (madeCells #[.int .i64 0] ts.length) 3)
 have HAl := Lib.hid hal3
 clear hts hti hos hin hmx hb2 hal3
 go_wp2_with fail
 generalize w2.alloc (.cells (madeCells #[.int .i64 0] ts.length) 3) = w3 at *
 go_loopw [14, 15] (fun more i wr => RfaRel (ksOf (askN needs) (ppL ts)) ts.length w3 more i wr) (fun _ i _ => ts.length - (intOf i).toNat)
 case atStart => exact ⟨0, true, Nat.zero_le _, rfl, rfl, rfl, Below.refl _ _⟩
 case round =>
  obtain ⟨k, b, hk, rfl, rfl, hall, hb⟩ := hrel
  have HAl2 := Lib.hid hall
  have HB := Lib.hid hb
  clear hall
  by_cases hlt : k < ts.length
  ·have i0 : (0 : Int) ≤ (k : Int) := by omega
   have i1 : (k : Int) < (ts.length : Int) := by omega
   have hks := ks_at' (needs := needs) hlt
   have HTk : Hid ((ksOf (askN needs) (ppL ts)).take (k + 1) = (ksOf (askN needs) (ppL ts)).take k ++ [ts[k].os.length + if askN needs (namL (ppL ts) k) = true then 0 else 1]) := by
    show _ = _
    rw [List.take_add_one, hks]; rfl
   cases b
   case false =>
    clear hks hb
    go_wp2_with fail
    go_roundw
    case rel => exact ⟨k + 1, false, hlt, by go_num, rfl, by rw [HTk.out, List.all_append, HAl2.out]; rfl, HB.out⟩
    case measure => simp [intOf]; omega
   have hbT := below_then HAl.out hb
   obtain ⟨bx, ox, rfl, hbx, c0, c1⟩ := HT.out.at' hbT hlt
   have hnk := nam_at ts hlt
   have hosl : ts[k].os.length ≤ 1000000 := by
    have h1 : k < (ppL ts).length := by rw [ppL_len]; exact hlt
    have := (HBd.out.os _ (List.getElem_mem h1)).1
    rw [ppL_at h1 hlt] at this
    have h2 : (List.map DOff.po ts[k].os).length ≤ 1000000 := this
    rwa [List.length_map] at h2
   generalize ts[k]'hlt = pk' at c0 c1 hnk hosl HTk
   obtain ⟨xn, xo, xa, xc⟩ := pk'
   simp only [DPack.ov] at c0 c1 hnk hosl HTk
   obtain ⟨m, hm⟩ : ∃ m, xo.length + (if askN needs (namL (ppL ts) k) = true then 0 else 1) = m := ⟨_, rfl⟩
   rw [hm] at HTk
   have HM := Lib.hid hm
   have HWy := Lib.hid (rways_as xn xa xo.length xc nv needs m wr (HN.out.below hbT (Nat.le_refl _)) (by rw [← HM.out, hnk]; rfl) hosl)
   clear hks hb hbT hnk hosl hm
   go_wp2_with fail
   refine HWy.out.mono ?_
   rintro e w5 ⟨rfl, hb5⟩
   have HB5 := Lib.hid (below_then HB.out hb5)
   clear hb5 c0 c1
   by_cases hm0 : 0 < m
   ·have q5 : decide ((0 : Int) < (m : Int)) = true := decide_eq_true (by omega)
    have q6 : decide (0 < m) = true := decide_eq_true hm0
    have HNx : Hid (((ksOf (askN needs) (ppL ts)).take (k + 1)).all (fun x => decide (0 < x)) = true) := by
     show _ = _
     rw [HTk.out, List.all_append, HAl2.out]; simp [hm0]
    clear hm0
    go_wp2_with fail
    go_roundw
    case rel => exact ⟨k + 1, true, hlt, by go_num, rfl, HNx.out, HB5.out⟩
    case measure => simp [intOf]; omega
   ·have q5 : decide ((0 : Int) < (m : Int)) = false := decide_eq_false (by omega)
    have q6 : decide (0 < m) = false := decide_eq_false hm0
    have HNx : Hid (((ksOf (askN needs) (ppL ts)).take (k + 1)).all (fun x => decide (0 < x)) = false) := by
     show _ = _
     rw [HTk.out, List.all_append, HAl2.out]; simp [hm0]
    clear hm0
    go_wp2_with fail
    go_roundw
    case rel => exact ⟨k + 1, false, hlt, by go_num, rfl, HNx.out, HB5.out⟩
    case measure => simp [intOf]; omega
  ·have i1 : decide (k < ts.length) = false := decide_eq_false hlt
   have hpos : b = true → ∀ x ∈ ksOf (askN needs) (ppL ts), 0 < x := fun h x hx => by
    have ha := HAl2.out
    rw [List.take_of_length_le (by rw [HKl.out]; omega), h, List.all_eq_true] at ha
    exact of_decide_eq_true (ha x hx)
   have hzero : b = false → (allW (ksOf (askN needs) (ppL ts))).length = 0 := fun h => by
    have ha := HAl2.out
    rw [List.take_of_length_le (by rw [HKl.out]; omega), h, List.all_eq_false] at ha
    obtain ⟨x, hx, hx0⟩ := ha
    have : x = 0 := by
     rcases Nat.eq_zero_or_pos x with h | h
     ·exact h
     ·exact absurd (decide_eq_true h) hx0
    subst this
    rw [allW_len]; exact prodL_zero hx
   have HPos := Lib.hid hpos
   have HRm : Hid (RfmRel (ksOf (askN needs) (ppL ts)) (GoodW (ppL ts) (askN needs)) bn w3 (.slice (some ⟨w2.heap.size, 0, none⟩) ts.length ts.length) (.bool b) (.int .i64 0) wr) := by
    refine ⟨0, b, Nat.zero_le _, rfl, rfl, fun j _ h => absurd h (Nat.not_lt_zero _), fun h => ⟨zerosN ts.length, ?_, HZr.out.below hb (Nat.le_refl _)⟩, fun h => (hzero h).symm, hb⟩
    rw [← HKl.out]; exact allW_first (hpos h)
   clear hlt hpos hzero hb
   go_wp2_with fail
   go_loopw [13, 14, 16] (fun v more n wy => RfmRel (ksOf (askN needs) (ppL ts)) (GoodW (ppL ts) (askN needs)) bn w3 v more n wy ∧ (b = false → more = .bool false)) (fun _ _ n _ => bn - (intOf n).toNat)
   case atStart => exact ⟨HRm.out, fun h => by rw [h]⟩
   case round =>
    obtain ⟨⟨m, c, hm, rfl, rfl, hno, hyes, hend, hb⟩, hcb⟩ := hrel
    have HNo := Lib.hid hno
    have HB := Lib.hid hb
    have HBw := Lib.hid (below_then HB2.out (below_then HAl.out hb))
    have HEnd := Lib.hid hend
    have HYes := Lib.hid hyes
    have HCb := Lib.hid hcb
    clear hno hend hyes hcb hb
    cases c
    case false =>
     have HF : Hid (SolIs lock needs ps bn [] m 250) := HIn.out none m 250 (.inr (.inl ⟨rfl, rfl, HEnd.out rfl, hm, fun j hj => HNo.out j hj (by have := HEnd.out rfl; omega)⟩))
     go_wp2_with fail
     go_ret3
     exact ⟨_, [], m, 250, rfl, HF.out, piks_nil _, HBw.out⟩
    obtain rfl : b = true := by
     cases b
     ·have := HCb.out rfl; cases this
     ·rfl
    obtain ⟨ws, hws, hwr⟩ := HYes.out rfl
    have HWs := Lib.hid hws
    have HWr := Lib.hid hwr
    have hisw : IsW (ksOf (askN needs) (ppL ts)) ws := mem_allW.1 (List.mem_of_getElem? hws)
    have hwl : ws.length = ts.length := by rw [hisw.1]; exact HKl.out
    have HIsW := Lib.hid (⟨hisw, hwl⟩ : _ ∧ _)
    clear hws hwr hisw hwl
    by_cases hlt : m < bn
    case neg =>
     have hmb : m = bn := by omega
     have q5 : decide (m < bn) = false := decide_eq_false hlt
     have HF : Hid (SolIs lock needs ps bn [] bn 251) := HIn.out none bn 251 (.inr (.inr ⟨rfl, rfl, rfl, by rw [← hmb]; exact (List.getElem?_eq_some_iff.1 HWs.out).1, fun j hj h => HNo.out j hj (by omega)⟩))
     clear hmb hlt
     go_wp2_with fail
     go_ret3
     exact ⟨_, [], bn, 251, rfl, HF.out, piks_nil _, HBw.out⟩
    have q5 : decide (m < bn) = true := decide_eq_true hlt
    have HLt := Lib.hid hlt
    have hbT := below_then HAl.out HB.out
    have HCl := Lib.hid (rclosed_as _ _ ts ws wr (HT.out.below hbT (Nat.le_refl _)) HWr.out HIsW.out.2 HTW.out HBd.out)
    have HBT := Lib.hid hbT
    have hwm : IntKind.i64.wrap ((m : Int) + 1) = (m : Int) + 1 := by rw [IntKind.wrap_i64]; omega
    clear hlt hbT hm
    go_upto_region 16 with fail
    go_cut [71] (fun x wx => ∃ c, x = .bool c ∧ (c = true ↔ GoodW (ppL ts) (askN needs) ws) ∧ Below wr.heap.size wr wx)
    case first =>
     go_wp2_with fail
     refine HCl.out.mono ?_
     rintro e w6 ⟨⟨c, rfl, hc⟩, hb6⟩
     have HC6 := Lib.hid hc
     cases c
     ·have HF : Hid (false = true ↔ GoodW (ppL ts) (askN needs) ws) := ⟨(fun h => by cases h), fun h => HC6.out.2 ((fits_closed HTW.out).1 h.1)⟩
      clear hc
      go_wp2_with fail
      go_meet
      case rel => exact ⟨false, rfl, HF.out, hb6⟩
     ·have hcl := hc.1 rfl
      have HCl2 := Lib.hid hcl
      have HGr := Lib.hid (rgrounded_as (.slice ta ts.length tc) _ nv ts ws needs w6 (HT.out.below (below_then HBT.out hb6) (Nat.le_refl _)) (HWr.out.below hb6 (Nat.le_refl _)) (HN.out.below (below_then HBT.out hb6) (Nat.le_refl _)) HIsW.out.2 HBd.out)
      clear hc hcl
      go_wp2_with fail
      refine HGr.out.mono ?_
      rintro e w7 ⟨⟨d, rfl, hd⟩, hb7⟩
      have HF : Hid (d = true ↔ GoodW (ppL ts) (askN needs) ws) := hd.trans ⟨fun h => ⟨(fits_closed HTW.out).2 HCl2.out, h⟩, fun h => h.2⟩
      have HB7 := Lib.hid (below_then hb6 hb7)
      clear hd hb6 hb7
      go_wp2_with fail
      go_meet
      case rel => exact ⟨d, rfl, HF.out, HB7.out⟩
    case rest =>
     obtain ⟨c, rfl, hc, hbc⟩ := hcut
     have HGd := Lib.hid hc
     have HBc := Lib.hid (below_then HB.out hbc)
     have HBTc := Lib.hid (below_then HBT.out hbc)
     have HWc := Lib.hid (HWr.out.below hbc (Nat.le_refl _))
     clear hc hbc
     cases c
     case false =>
      have hpos : 0 < ts.length := by
       rcases Nat.eq_zero_or_pos ts.length with h | h
       ·exfalso
        have := HGd.out.2 ⟨fun i hi => by rw [ppL_len] at hi; omega, fun i hi => by rw [ppL_len] at hi; omega⟩
        cases this
       ·exact h
      have HNt := Lib.hid (rnext_as (.slice ta ts.length tc) _ nv ts ws needs wc (HT.out.below HBTc.out (Nat.le_refl _)) HWc.out (HN.out.below HBTc.out (Nat.le_refl _)) HIsW.out.1 HBd.out hpos)
      have HNg : Hid (∀ j (h : j < (allW (ksOf (askN needs) (ppL ts))).length), j < m + 1 → ¬ GoodW (ppL ts) (askN needs) (allW (ksOf (askN needs) (ppL ts)))[j]) := by
       show ∀ _, _
       intro j hj hjm
       rcases Nat.lt_succ_iff_lt_or_eq.1 hjm with h | rfl
       ·exact HNo.out j hj h
       ·intro hg
        obtain ⟨h1, h2⟩ := List.getElem?_eq_some_iff.1 HWs.out
        rw [h2] at hg
        have := HGd.out.2 hg
        cases this
      have HAn : Hid (nextL (ksOf (askN needs) (ppL ts)) ws = (allW (ksOf (askN needs) (ppL ts)))[m + 1]?) := allW_next (HPos.out rfl) m ws HWs.out
      clear hpos
      go_wp2_with fail
      refine HNt.out.mono ?_
      rintro e w8 ⟨⟨v', ws', rfl, hnx, hwr'⟩ | ⟨rfl, hnx⟩, hb8⟩
      ·have HX := Lib.hid (⟨hnx, hwr'⟩ : _ ∧ _)
       have HB8 := Lib.hid (below_then HBc.out hb8)
       clear hnx hwr' hb8
       go_wp2_with fail
       go_roundw
       case rel => exact ⟨⟨m + 1, true, HLt.out, by go_num, rfl, HNg.out, fun _ => ⟨ws', by rw [← HAn.out]; exact HX.out.1, HX.out.2⟩, (fun h => by cases h), HB8.out⟩, (fun h => by cases h)⟩
       case measure => have := HLt.out; simp [intOf]; omega
      ·have HX : Hid (m + 1 = (allW (ksOf (askN needs) (ppL ts))).length) := by
        show _ = _
        have h1 := (List.getElem?_eq_some_iff.1 HWs.out).1
        rw [HAn.out] at hnx
        have h2 := List.getElem?_eq_none_iff.1 hnx
        omega
       have HB8 := Lib.hid (below_then HBc.out hb8)
       clear hnx hb8
       go_wp2_with fail
       go_roundw
       case rel => exact ⟨⟨m + 1, false, HLt.out, by go_num, rfl, HNg.out, (fun h => by cases h), fun _ => HX.out, HB8.out⟩, (fun h => by cases h)⟩
       case measure => have := HLt.out; simp [intOf]; omega
     case true =>
      have hgood := HGd.out.1 rfl
      have HGood := Lib.hid hgood
      obtain ⟨w5, rfl⟩ : ∃ x, x = wc := ⟨_, rfl⟩
      obtain ⟨i0', hi, hq0, hq1, hq2⟩ := info_of info_pick
      clear hgood
      go_wp2_with fail
      go_loopw [17, 18] (fun v i wy => RfvRel (ppL ts) ws ts.length w5 v i wy) (fun _ i _ => ts.length - (intOf i).toNat)
      case atStart => exact ⟨0, Nat.zero_le _, rfl, World.ownsRow_nil _ _ _ _, Below.refl _ _⟩
      case round =>
       obtain ⟨k, hk, rfl, hown, hb⟩ := hrel
       have HOw := Lib.hid hown
       have HB5 := Lib.hid hb
       by_cases hlt : k < ts.length
       ·have i0 : (0 : Int) ≤ (k : Int) := by omega
        have i1 : (k : Int) < (ts.length : Int) := by omega
        have hbT := below_then HBTc.out hb
        obtain ⟨bx, ox, rfl, hbx, c0, c1⟩ := HT.out.at' hbT hlt
        have hnk := nam_at ts hlt
        have hpk := rpickS_any _ _ ts ws (namL (ppL ts) k) wr (HT.out.below hbT (Nat.le_refl _)) (HWc.out.below hb (Nat.le_refl _)) HIsW.out.2 HBd.out
        rw [hnk, S_of] at hpk
        have HPk := Lib.hid hpk
        have HNk := Lib.hid hnk
        have hc05 : w5.cell? ⟨bx, ox + k * 2, none⟩ = some (.string ts[k].name) := by
         obtain ⟨_, _, h2, _, g0, _⟩ := HT.out.at' HBTc.out hlt
         cases h2; exact g0
        have HC05 := Lib.hid hc05
        obtain ⟨pn, hpn⟩ : ∃ x, ts[k].name = x := ⟨_, rfl⟩
        rw [hpn] at c0 HPk HNk HC05
        clear hpk hnk c1 hc05 hpn hbT
        go_wp2_with fail
        refine HPk.out.mono ?_
        rintro e w6 ⟨⟨r, b, rfl, hpr⟩, hb6⟩
        have HB6 := Lib.hid (below_then hb hb6)
        have HO6 := Lib.hid (owns_below hown hb6)
        rcases hpr with ⟨rfl, o, i', hi', hni, hti, rfl, _⟩ | ⟨rfl, rfl, hno⟩
        ·have hik : i' = k := HTW.out.inj (by rw [ppL_len]; exact hi') (by rw [ppL_len]; exact hlt) (hni.trans HNk.out.symm)
         subst hik
         obtain ⟨⟨v1, v2, v3, v4⟩, oy, ons, ona, onc⟩ := o
         have HPt : Hid (picksTo (ppL ts) ws (i' + 1) = picksTo (ppL ts) ws i' ++ [⟨pn, ⟨v1, v2, v3, v4⟩⟩]) := by
          show _ = _
          rw [picksTo_succ, pickAt, hti, HNk.out]
          rfl
         have hal := (Below.refl w6.heap.size w6).alloc (Nat.le_refl _) (.cells #[.int .i64 v1, .int .i64 v2, .int .i64 v3, .string v4, .bool oy, .slice ona ons.length onc] 55)
         have hx7 := Below.refl (w6.heap.size + 1) (w6.alloc (.cells #[.int .i64 v1, .int .i64 v2, .int .i64 v3, .string v4, .bool oy, .slice ona ons.length onc] 55))
         have o0 := box_cells hx7 0
         have o1 := box_cells hx7 1
         have o2 := box_cells hx7 2
         have o3 := box_cells hx7 3
         simp only [List.getElem?_toArray, List.getElem?_cons_zero, List.getElem?_cons_succ] at o0 o1 o2 o3
         have hsz : (w6.alloc (.cells #[.int .i64 v1, .int .i64 v2, .int .i64 v3, .string v4, .bool oy, .slice ona ons.length onc] 55)).heap.size = w6.heap.size + 1 := by simp
         have HB7 := Lib.hid (below_then HB6.out hal)
         have HO7a := Lib.hid (owns_below HO6.out hal)
         have h6 := below_then hb6 hal
         have c7 := cell_on c0 h6
         have Hne := Lib.hid (fun g (h : u17.ownBlock = some g) => (HOw.out.lt g h).2)
         have hz6 : wr.heap.size ≤ w6.heap.size := hb6.size
         have hz5 : w5.heap.size ≤ wr.heap.size := hb.size
         have hpl : (picksTo (ppL ts) ws i').length ≤ i' := picksTo_le _ _ _
         have HWr6 := Lib.hid (HWc.out)
         simp only [DOff.val, DOff.nv]
         clear hti hni hi' hal hx7 hb6 h6 hown hb c0
         go_wp2_with fail
         generalize w6.alloc (.cells #[.int .i64 v1, .int .i64 v2, .int .i64 v3, .string v4, .bool oy, .slice ona ons.length onc] 55) = w7 at *
         have hd7 := (Below.refl w7.heap.size w7).drew
         have hst : ApR bx (ox + i' * 2) pn w6.heap.size ⟨v1, v2, v3, v4⟩ w5 w7.drew := ⟨⟨cell_on c7 hd7, cell_on o0 hd7, cell_on o1 hd7, cell_on o2 hd7, cell_on o3 hd7⟩, below_then HB7.out hd7⟩
         have HO7 := Lib.hid (owns_below HO7a.out hd7)
         clear c7 o0 o1 o2 o3 hd7
         refine wp_region_held_drew (S := (fun W => ApR bx (ox + i' * 2) pn w6.heap.size ⟨v1, v2, v3, v4⟩ w5 W)) (by kernel_rfl) (hst) (fun hHeld => ?_)
         refine wpAnyH_take (i := 0) (v := ?_) rfl (by kernel_rfl) (by kernel_rfl) (by kernel_rfl) (fun _ _ _ h => h) (Or.inl ⟨by kernel_rfl, ?_⟩) hHeld ?_
         rotate_left
         ·(rintro W ⟨⟨e0, e1, e2, e3, e4⟩, _⟩; go_simp; (try with_reducible rfl))
         (try simp only [Act.put, putL])
         refine wpAnyH_take (i := 1) (v := ?_) rfl (by kernel_rfl) (by kernel_rfl) (by kernel_rfl) (fun _ _ _ h => h) (Or.inl ⟨by kernel_rfl, ?_⟩) hHeld ?_
         rotate_left
         ·(rintro W ⟨⟨e0, e1, e2, e3, e4⟩, _⟩; go_simp; (try with_reducible rfl))
         (try simp only [Act.put, putL])
         refine wpAnyH_take (i := 2) (v := ?_) rfl (by kernel_rfl) (by kernel_rfl) (by kernel_rfl) (fun _ _ _ h => h) (Or.inl ⟨by kernel_rfl, ?_⟩) hHeld ?_
         rotate_left
         ·(rintro W ⟨⟨e0, e1, e2, e3, e4⟩, _⟩; go_simp; (try with_reducible rfl))
         (try simp only [Act.put, putL])
         refine wpAnyH_take (i := 3) (v := ?_) rfl (by kernel_rfl) (by kernel_rfl) (by kernel_rfl) (fun _ _ _ h => h) (Or.inl ⟨by kernel_rfl, ?_⟩) hHeld ?_
         rotate_left
         ·(rintro W ⟨⟨e0, e1, e2, e3, e4⟩, _⟩; go_simp; (try with_reducible rfl))
         (try simp only [Act.put, putL])
         refine wpAnyH_take (i := 4) (v := ?_) rfl (by kernel_rfl) (by kernel_rfl) (by kernel_rfl) (fun _ _ _ h => h) (Or.inl ⟨by kernel_rfl, ?_⟩) hHeld ?_
         rotate_left
         ·(rintro W ⟨⟨e0, e1, e2, e3, e4⟩, _⟩; go_simp; (try with_reducible rfl))
         (try simp only [Act.put, putL])
         refine wpAnyH_take (i := 5) (v := ?_) rfl (by kernel_rfl) (by kernel_rfl) (by kernel_rfl) (fun _ _ _ h => h) (Or.inl ⟨by kernel_rfl, ?_⟩) hHeld ?_
         rotate_left
         ·(rintro W ⟨⟨e0, e1, e2, e3, e4⟩, _⟩; go_simp; (try with_reducible rfl))
         (try simp only [Act.put, putL])
         refine wpAnyH_take (i := 6) (v := ?_) rfl (by kernel_rfl) (by kernel_rfl) (by kernel_rfl) (fun _ _ _ h => h) (Or.inl ⟨by kernel_rfl, ?_⟩) hHeld ?_
         rotate_left
         ·(rintro W ⟨⟨e0, e1, e2, e3, e4⟩, _⟩; go_simp; (try with_reducible rfl))
         (try simp only [Act.put, putL])
         refine wpAnyH_take (i := 7) (v := ?_) rfl (by kernel_rfl) (by kernel_rfl) (by kernel_rfl) (fun _ _ _ h => h) (Or.inl ⟨by kernel_rfl, ?_⟩) hHeld ?_
         rotate_left
         ·(rintro W ⟨⟨e0, e1, e2, e3, e4⟩, _⟩; go_simp; (try with_reducible rfl))
         (try simp only [Act.put, putL])
         refine wpAnyH_take (i := 8) (v := ?_) rfl (by kernel_rfl) (by kernel_rfl) (by kernel_rfl) (fun _ _ _ h => h) (Or.inl ⟨by kernel_rfl, ?_⟩) hHeld ?_
         rotate_left
         ·(rintro W ⟨⟨e0, e1, e2, e3, e4⟩, _⟩; go_simp; (try with_reducible rfl))
         (try simp only [Act.put, putL])
         refine wpAnyH_ready (rs := [9]) (by kernel_rfl) (by simp) ?_
         refine AllReadyH.cons rfl (fun K hK => ?_) AllReadyH.nil
         go_simp
         have hal := (Below.refl w7.drew.heap.size w7.drew).alloc (Nat.le_refl _) (.cells #[.string pn, .int .i64 v1, .int .i64 v2, .int .i64 v3, .string v4] 43)
         refine hK.out _ _ (hHeld.on hal) (fun hHeld => ?_)
         clear hK K
         (try simp only [Act.put, putL])
         have hBl := hHeld.2
         have hBx := hHeld.1
         refine wpAnyH_ready (rs := [10]) (by kernel_rfl) (by simp) ?_
         refine AllReadyH.cons rfl (fun K hK => ?_) AllReadyH.nil
         refine step_append_ats (by rfl) (.tmp 90) (.tmp 99) 23 (by rfl) w5.heap.size 43 i0' (.agg #[.string ⟨#[]⟩, .int .i64 0, .int .i64 0, .int .i64 0, .string ⟨#[]⟩]) 5 56 Tryz.underlying23 hi hq0 hq1 hq2 rfl (by decide) u17 (picksTo (ppL ts) ws i').length ((picksTo (ppL ts) ws i').flatMap Pik.cells) (by simp [Act.eval]) (HO7.out.alloc _) ⟨w7.heap.size, 0, none⟩ 1 1 [.string pn, .int .i64 v1, .int .i64 v2, .int .i64 v3, .string v4] (by simp [Act.eval]) rfl (row5_at _ _ rfl _ _ _ _ _ _) (by intro u hu; simp at hu; rcases hu with rfl | rfl | rfl | rfl | rfl <;> rfl) (by unfold maxLen; omega) (by omega) hBl.size ?_
         intro v14 w14 hown14 hg14 hk14
         have hB14 := below_grown hBl (HO7.out.alloc _) hg14 hBl.size
         have hbk := hg14.block w6.heap.size (by simp; omega) (fun e => by have := Hne.out _ e.symm; omega)
         have hS14 : ApR bx (ox + i' * 2) pn w6.heap.size ⟨v1, v2, v3, v4⟩ w5 w14 := by
          obtain ⟨_, x1, x2, x3, x4⟩ := hBx
          exact ⟨⟨by rw [hB14.cell (cell_lt HC05.out)]; exact HC05.out, (cell_blk hbk).trans x1, (cell_blk hbk).trans x2, (cell_blk hbk).trans x3, (cell_blk hbk).trans x4⟩, hB14⟩
         have HG14 := Lib.hid (⟨hown14, hB14⟩ : _ ∧ _)
         clear hown14 hg14 hk14 hB14 hbk
         refine hK.out _ _ hS14 (fun hHeld => ?_)
         clear hK K
         (try simp only [Act.put, putL])
         refine wpAnyH_take (i := 11) (v := ?_) rfl (by kernel_rfl) (by kernel_rfl) (by kernel_rfl) (fun _ _ _ h => h) (Or.inl ⟨by kernel_rfl, ?_⟩) hHeld ?_
         rotate_left
         ·(rintro W ⟨⟨e0, e1, e2, e3, e4⟩, _⟩; go_simp; (try with_reducible rfl))
         (try simp only [Act.put, putL])
         refine wpAnyH_done (by kernel_rfl) ?_ _
         clear hHeld hst
         go_wp2_with fail
         go_roundw
         case rel => exact ⟨i' + 1, hlt, by go_num, by rw [HPt.out, List.flatMap_append, List.length_append]; exact HG14.out.1, HG14.out.2⟩
         case measure => simp [intOf]; omega
        ·have HPt : Hid (picksTo (ppL ts) ws (k + 1) = picksTo (ppL ts) ws k) := by
          show _ = _
          rw [picksTo_succ, pickAt, hno k hlt HNk.out]; simp
         have hal := (Below.refl w6.heap.size w6).alloc (Nat.le_refl _) (.cells #[.int .i64 0, .int .i64 0, .int .i64 0, .string ⟨#[]⟩, .bool false, .slice none 0 0] 55)
         have HB7 := Lib.hid (below_then HB6.out hal)
         have HO7 := Lib.hid (owns_below HO6.out hal)
         clear hno hb6 hown hb c0 hal
         go_wp2_with fail
         go_roundw
         case rel => exact ⟨k + 1, hlt, by go_num, by rw [HPt.out]; exact HO7.out, HB7.out⟩
         case measure => simp [intOf]; omega
       ·have i1 : decide (k < ts.length) = false := decide_eq_false hlt
        have hme : k = (ppL ts).length := by rw [ppL_len]; omega
        have HF : Hid (SolIs lock needs ps bn (picksL (ppL ts) ws) (m + 1) 0 ∧ Piks wr u17 (picksL (ppL ts) ws) ∧ Below w.heap.size w wr) := by
         refine ⟨?_, Piks.of_owns (by unfold picksL; rw [← hme]; exact hown), (below_then HB2.out (below_then HAl.out (below_then HBc.out hb)))⟩
         obtain ⟨h1, h2⟩ := List.getElem?_eq_some_iff.1 HWs.out
         exact HIn.out (some ws) (m + 1) 0 (.inl ⟨rfl, m, h1, by rw [h2], rfl, HLt.out, by rw [h2]; exact HGood.out, HNo.out⟩)
        clear hlt hme hown hb
        go_wp2_with fail
        go_ret3
        exact ⟨u17, picksL (ppL ts) ws, m + 1, 0, by congr 3, HF.out.1, HF.out.2.1, HF.out.2.2⟩
end Go.Proofs.YtbgimpeklblcjaaGreatDoor
