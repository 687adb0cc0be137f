/- Solve: a search is begun: the walk. -/
import Derived.Test.YtbgimpeklblcjaaGreatDoorSolWalks
import Derived.Test.YtbgimpeklblcjaaGreatDoorChCounts
namespace Go
open Go.RowKit
theorem Row.drop {w : World} {size : Nat} {b off cap n : Nat} {xs : List Value} (h : Row w size (.slice (some ⟨b, off, none⟩) n cap) n xs) {i : Nat} (hi : i ≤ n) (c' : Nat) : Row w size (.slice (some ⟨b, off + i * size, none⟩) (n - i) c') (n - i) (xs.drop (i * size)) := by
 obtain ⟨h1, h2, ⟨a', cap', h3, h4, h5⟩ | ⟨b', off', cap', h3, h4, h5, h6⟩⟩ := h
 ·subst h4
  have : i = 0 := by omega
  subst this
  exact ⟨by rw [List.length_drop, h1]; omega, by omega, .inl ⟨_, _, rfl, by omega, fun h => by cases h⟩⟩
 ·injection h3 with e1 e2 e3
  injection e1 with e1
  injection e1 with e1 e4
  subst e1 e4
  refine ⟨by rw [List.length_drop, h1, Nat.sub_mul], by omega, ?_⟩
  by_cases hz : n - i = 0
  ·exact .inl ⟨_, _, by rw [hz], hz, fun h => by cases h⟩
  ·refine .inr ⟨b, off + i * size, c', rfl, by omega, h5, fun j hj => ?_⟩
   have hb : i * size + j < n * size := by
    have : (n - i) * size = n * size - i * size := Nat.sub_mul _ _ _
    omega
   rw [Nat.add_assoc, h6 (i * size + j) hb, List.getElem?_drop]
theorem flat_drop : ∀ (ps : List DPack) (i : Nat), (ps.flatMap DPack.cells).drop (i * 2) = (ps.drop i).flatMap DPack.cells
 | [], i => by simp
 | p :: ps, 0 => by simp
 | p :: ps, i + 1 => by
  rw [show (i + 1) * 2 = i * 2 + 1 + 1 from by omega, List.flatMap_cons, List.drop_succ_cons, ← flat_drop ps i]
  rfl
theorem Packs.drop {w : World} {b off cap : Nat} {ps : List DPack} (h : Packs w (.slice (some ⟨b, off, none⟩) ps.length cap) ps) {i : Nat} (hi : i ≤ ps.length) (c' : Nat) : Packs w (.slice (some ⟨b, off + i * 2, none⟩) (ps.length - i) c') (ps.drop i) := by
 refine ⟨?_, fun p hp => h.2 p (List.mem_of_mem_drop hp)⟩
 have hr := Row.drop h.1 hi c'
 rw [flat_drop] at hr
 rw [List.length_drop]; exact hr
theorem Packs.sliced {w : World} {ta : Option Addr} {tc : Nat} {ps : List DPack} (h : Packs w (.slice ta ps.length tc) ps) (hc : ps.length ≤ tc) {i : Nat} (hi : i ≤ ps.length) : Packs w (sliced ta i ps.length tc 2) (ps.drop i) := by
 unfold Go.sliced
 by_cases e : tc = i
 ·rw [if_pos e]
  have e2 : i = ps.length := by omega
  subst e2
  refine ⟨⟨by simp, by simp [maxLen], .inl ⟨ta, tc - ps.length, by simp, by simp, fun _ => by omega⟩⟩, fun p hp => by simp at hp⟩
 ·rw [if_neg e]
  have hne : ps.length ≠ 0 ∨ ta = none ∨ ∃ x, ta = some x := by cases ta <;> simp
  obtain ⟨h1, h2, ⟨a', cap', h3, h4, h5⟩ | ⟨b', off', cap', h3, h4, h5, h6⟩⟩ := h.1
  ·injection h3 with e1 e3 e4
   have e5 : i = 0 := by omega
   subst e5
   have e6 : ps = [] := List.length_eq_zero_iff.1 h4
   subst e6
   refine ⟨⟨by simp, by simp [maxLen], .inl ⟨_, _, rfl, rfl, fun hn => ?_⟩⟩, fun p hp => by simp at hp⟩
   cases ta with
   | none => have := h5 e1.symm; omega
   | some x => cases hn
  ·injection h3 with e1 e3 e4
   subst e1
   have hd := Packs.drop h hi (tc - i)
   have ea : Addr.add ⟨b', off', none⟩ (i * 2) = ⟨b', off' + i * 2, none⟩ := by
    unfold Addr.add
    split
    ·rename_i hz
     rw [hz, Nat.add_zero]
    ·rfl
   rw [Option.map, ea]
   exact hd
/-- what is laid of a search so far -/
structure Begun (TS TB TI : TypeId) (B Ba Bw Bb : Nat) (tv : Value) (n bud : Nat) (w1 : World) (fa : Nat → Bool) (fb : Nat → Nat) (W : World) : Prop where
 below : Below w1.heap.size w1 W
 blk : W.heap[B]? = some (.cells #[tv, .slice (some ⟨Ba, 0, none⟩) n n, .slice (some ⟨Bw, 0, none⟩) n n, .slice (some ⟨Bb, 0, none⟩) (n + 1) (n + 1), .int .i64 0, .int .i64 (bud : Int)] TS (0, 0))
 ask : W.rowIs Ba TB n (fun j => .bool (fa j))
 way : W.rowIs Bw TI n (fun _ => .int .i64 0)
 bel : W.rowIs Bb TI (n + 1) (fun j => .int .i64 (fb j : Int))
 g : w1.heap.size ≤ B ∧ w1.heap.size ≤ Ba ∧ w1.heap.size ≤ Bw ∧ w1.heap.size ≤ Bb
 ap : B ≠ Ba ∧ B ≠ Bw ∧ B ≠ Bb ∧ Ba ≠ Bw ∧ Ba ≠ Bb ∧ Bw ≠ Bb
section
variable {TS TB TI : TypeId} {B Ba Bw Bb : Nat} {tv : Value} {n bud : Nat} {w1 : World} {fa : Nat → Bool} {fb : Nat → Nat} {W W' : World}
theorem Begun.on (h : Begun TS TB TI B Ba Bw Bb tv n bud w1 fa fb W) (hb : Below W.heap.size W W') : Begun TS TB TI B Ba Bw Bb tv n bud w1 fa fb W' :=
 ⟨below_then h.below hb, by rw [hb.block _ (lt_of_block h.blk)]; exact h.blk, h.ask.of_block (hb.block _ h.ask.lt), h.way.of_block (hb.block _ h.way.lt), h.bel.of_block (hb.block _ h.bel.lt), h.g, h.ap⟩
theorem Begun.setA (h : Begun TS TB TI B Ba Bw Bb tv n bud w1 fa fb W) (i : Nat) (b : Bool) : Begun TS TB TI B Ba Bw Bb tv n bud w1 (fun j => if j = i then b else fa j) fb (W.setCell ⟨Ba, i, none⟩ (.bool b)) := by
 obtain ⟨a1, a2, a3, a4, a5, a6⟩ := h.ap
 refine ⟨h.below.setCell h.g.2.1 _, by rw [Below.heap_setCell _ _ _ _ a1]; exact h.blk, (h.ask.set i _).congr fun j _ => ?_, h.way.setOther (fun e => a4 e.symm) _, h.bel.setOther (fun e => a5 e.symm) _, h.g, h.ap⟩
 by_cases e : j = i
 ·rw [if_pos e, if_pos e]
 ·rw [if_neg e, if_neg e]
theorem Begun.setB (h : Begun TS TB TI B Ba Bw Bb tv n bud w1 fa fb W) (i m : Nat) : Begun TS TB TI B Ba Bw Bb tv n bud w1 fa (fun j => if j = i then m else fb j) (W.setCell ⟨Bb, i, none⟩ (.int .i64 (m : Int))) := by
 obtain ⟨a1, a2, a3, a4, a5, a6⟩ := h.ap
 refine ⟨h.below.setCell h.g.2.2.2 _, by rw [Below.heap_setCell _ _ _ _ a3]; exact h.blk, h.ask.setOther a5 _, h.way.setOther a6 _, (h.bel.set i _).congr fun j _ => ?_, h.g, h.ap⟩
 by_cases e : j = i
 ·rw [if_pos e, if_pos e]
 ·rw [if_neg e, if_neg e]
theorem Begun.cells (h : Begun TS TB TI B Ba Bw Bb tv n bud w1 fa fb W) : W.cell? ⟨B, 0, none⟩ = some tv ∧ W.cell? ⟨B, 1, none⟩ = some (.slice (some ⟨Ba, 0, none⟩) n n) ∧ W.cell? ⟨B, 3, none⟩ = some (.slice (some ⟨Bb, 0, none⟩) (n + 1) (n + 1)) := by
 have hb := h.blk
 refine ⟨?_, ?_, ?_⟩ <;> simp [World.cell?, hb]
end
theorem begun1 (TS TB TI : TypeId) (tv : Value) (n bud : Nat) (w1 : World) : ∃ Ba Bw Bb, Begun TS TB TI w1.heap.size Ba Bw Bb tv n bud w1 (fun _ => false) (fun _ => 0) ((((w1.alloc (.cells #[tv, .slice (some ⟨w1.heap.size + 1, 0, none⟩) n n, .slice (some ⟨w1.heap.size + 1 + 1, 0, none⟩) n n, .slice (some ⟨w1.heap.size + 1 + 1 + 1, 0, none⟩) (n + 1) (n + 1), .int .i64 0, .int .i64 (bud : Int)] TS)).alloc (.cells (madeCells #[.bool false] n) TB)).alloc (.cells (madeCells #[.int .i64 0] n) TI)).alloc (.cells (madeCells #[.int .i64 0] (n + 1)) TI)).drew := by
 refine ⟨w1.heap.size + 1, w1.heap.size + 1 + 1, w1.heap.size + 1 + 1 + 1, ⟨?_, ?_, ?_, ?_, ?_, ⟨by omega, by omega, by omega, by omega⟩, ⟨by omega, by omega, by omega, by omega, by omega, by omega⟩⟩⟩
 ·exact (((((Below.refl _ _).alloc (by simp) _).alloc (by simp) _).alloc (by simp <;> omega) _).alloc (by simp <;> omega) _).drew
 ·exact new_alloc (new_alloc (new_alloc (Below_heap_new w1 _) _) _) _
 ·have h := World.rowIs_made (w1.alloc (.cells #[tv, .slice (some ⟨w1.heap.size + 1, 0, none⟩) n n, .slice (some ⟨w1.heap.size + 1 + 1, 0, none⟩) n n, .slice (some ⟨w1.heap.size + 1 + 1 + 1, 0, none⟩) (n + 1) (n + 1), .int .i64 0, .int .i64 (bud : Int)] TS)) (.bool false) n TB
  simp only [World.size_alloc] at h
  exact ((h.alloc _).alloc _)
 ·have h := World.rowIs_made ((w1.alloc (.cells #[tv, .slice (some ⟨w1.heap.size + 1, 0, none⟩) n n, .slice (some ⟨w1.heap.size + 1 + 1, 0, none⟩) n n, .slice (some ⟨w1.heap.size + 1 + 1 + 1, 0, none⟩) (n + 1) (n + 1), .int .i64 0, .int .i64 (bud : Int)] TS)).alloc (.cells (madeCells #[.bool false] n) TB)) (.int .i64 0) n TI
  simp only [World.size_alloc] at h
  exact (h.alloc _)
 ·have h := World.rowIs_made (((w1.alloc (.cells #[tv, .slice (some ⟨w1.heap.size + 1, 0, none⟩) n n, .slice (some ⟨w1.heap.size + 1 + 1, 0, none⟩) n n, .slice (some ⟨w1.heap.size + 1 + 1 + 1, 0, none⟩) (n + 1) (n + 1), .int .i64 0, .int .i64 (bud : Int)] TS)).alloc (.cells (madeCells #[.bool false] n) TB)).alloc (.cells (madeCells #[.int .i64 0] n) TI)) (.int .i64 0) (n + 1) TI
  simp only [World.size_alloc] at h
  exact h
theorem begun2 (TS TB TI : TypeId) (tv : Value) (n bud : Nat) (w1 : World) : ∃ Ba Bw Bb, Begun TS TB TI w1.heap.size Ba Bw Bb tv n bud w1 (fun _ => false) (fun _ => 0) ((((w1.alloc (.cells #[tv, .slice (some ⟨w1.heap.size + 1, 0, none⟩) n n, .slice (some ⟨w1.heap.size + 1 + 1 + 1, 0, none⟩) n n, .slice (some ⟨w1.heap.size + 1 + 1, 0, none⟩) (n + 1) (n + 1), .int .i64 0, .int .i64 (bud : Int)] TS)).alloc (.cells (madeCells #[.bool false] n) TB)).alloc (.cells (madeCells #[.int .i64 0] (n + 1)) TI)).alloc (.cells (madeCells #[.int .i64 0] n) TI)).drew := by
 refine ⟨w1.heap.size + 1, w1.heap.size + 1 + 1 + 1, w1.heap.size + 1 + 1, ⟨?_, ?_, ?_, ?_, ?_, ⟨by omega, by omega, by omega, by omega⟩, ⟨by omega, by omega, by omega, by omega, by omega, by omega⟩⟩⟩
 ·exact (((((Below.refl _ _).alloc (by simp) _).alloc (by simp) _).alloc (by simp <;> omega) _).alloc (by simp <;> omega) _).drew
 ·exact new_alloc (new_alloc (new_alloc (Below_heap_new w1 _) _) _) _
 ·have h := World.rowIs_made (w1.alloc (.cells #[tv, .slice (some ⟨w1.heap.size + 1, 0, none⟩) n n, .slice (some ⟨w1.heap.size + 1 + 1 + 1, 0, none⟩) n n, .slice (some ⟨w1.heap.size + 1 + 1, 0, none⟩) (n + 1) (n + 1), .int .i64 0, .int .i64 (bud : Int)] TS)) (.bool false) n TB
  simp only [World.size_alloc] at h
  exact ((h.alloc _).alloc _)
 ·have h := World.rowIs_made (((w1.alloc (.cells #[tv, .slice (some ⟨w1.heap.size + 1, 0, none⟩) n n, .slice (some ⟨w1.heap.size + 1 + 1 + 1, 0, none⟩) n n, .slice (some ⟨w1.heap.size + 1 + 1, 0, none⟩) (n + 1) (n + 1), .int .i64 0, .int .i64 (bud : Int)] TS)).alloc (.cells (madeCells #[.bool false] n) TB)).alloc (.cells (madeCells #[.int .i64 0] (n + 1)) TI)) (.int .i64 0) n TI
  simp only [World.size_alloc] at h
  exact h
 ·have h := World.rowIs_made ((w1.alloc (.cells #[tv, .slice (some ⟨w1.heap.size + 1, 0, none⟩) n n, .slice (some ⟨w1.heap.size + 1 + 1 + 1, 0, none⟩) n n, .slice (some ⟨w1.heap.size + 1 + 1, 0, none⟩) (n + 1) (n + 1), .int .i64 0, .int .i64 (bud : Int)] TS)).alloc (.cells (madeCells #[.bool false] n) TB)) (.int .i64 0) (n + 1) TI
  simp only [World.size_alloc] at h
  exact (h.alloc _)
theorem begun3 (TS TB TI : TypeId) (tv : Value) (n bud : Nat) (w1 : World) : ∃ Ba Bw Bb, Begun TS TB TI w1.heap.size Ba Bw Bb tv n bud w1 (fun _ => false) (fun _ => 0) ((((w1.alloc (.cells #[tv, .slice (some ⟨w1.heap.size + 1 + 1, 0, none⟩) n n, .slice (some ⟨w1.heap.size + 1, 0, none⟩) n n, .slice (some ⟨w1.heap.size + 1 + 1 + 1, 0, none⟩) (n + 1) (n + 1), .int .i64 0, .int .i64 (bud : Int)] TS)).alloc (.cells (madeCells #[.int .i64 0] n) TI)).alloc (.cells (madeCells #[.bool false] n) TB)).alloc (.cells (madeCells #[.int .i64 0] (n + 1)) TI)).drew := by
 refine ⟨w1.heap.size + 1 + 1, w1.heap.size + 1, w1.heap.size + 1 + 1 + 1, ⟨?_, ?_, ?_, ?_, ?_, ⟨by omega, by omega, by omega, by omega⟩, ⟨by omega, by omega, by omega, by omega, by omega, by omega⟩⟩⟩
 ·exact (((((Below.refl _ _).alloc (by simp) _).alloc (by simp) _).alloc (by simp <;> omega) _).alloc (by simp <;> omega) _).drew
 ·exact new_alloc (new_alloc (new_alloc (Below_heap_new w1 _) _) _) _
 ·have h := World.rowIs_made ((w1.alloc (.cells #[tv, .slice (some ⟨w1.heap.size + 1 + 1, 0, none⟩) n n, .slice (some ⟨w1.heap.size + 1, 0, none⟩) n n, .slice (some ⟨w1.heap.size + 1 + 1 + 1, 0, none⟩) (n + 1) (n + 1), .int .i64 0, .int .i64 (bud : Int)] TS)).alloc (.cells (madeCells #[.int .i64 0] n) TI)) (.bool false) n TB
  simp only [World.size_alloc] at h
  exact (h.alloc _)
 ·have h := World.rowIs_made (w1.alloc (.cells #[tv, .slice (some ⟨w1.heap.size + 1 + 1, 0, none⟩) n n, .slice (some ⟨w1.heap.size + 1, 0, none⟩) n n, .slice (some ⟨w1.heap.size + 1 + 1 + 1, 0, none⟩) (n + 1) (n + 1), .int .i64 0, .int .i64 (bud : Int)] TS)) (.int .i64 0) n TI
  simp only [World.size_alloc] at h
  exact ((h.alloc _).alloc _)
 ·have h := World.rowIs_made (((w1.alloc (.cells #[tv, .slice (some ⟨w1.heap.size + 1 + 1, 0, none⟩) n n, .slice (some ⟨w1.heap.size + 1, 0, none⟩) n n, .slice (some ⟨w1.heap.size + 1 + 1 + 1, 0, none⟩) (n + 1) (n + 1), .int .i64 0, .int .i64 (bud : Int)] TS)).alloc (.cells (madeCells #[.int .i64 0] n) TI)).alloc (.cells (madeCells #[.bool false] n) TB)) (.int .i64 0) (n + 1) TI
  simp only [World.size_alloc] at h
  exact h
theorem begun4 (TS TB TI : TypeId) (tv : Value) (n bud : Nat) (w1 : World) : ∃ Ba Bw Bb, Begun TS TB TI w1.heap.size Ba Bw Bb tv n bud w1 (fun _ => false) (fun _ => 0) ((((w1.alloc (.cells #[tv, .slice (some ⟨w1.heap.size + 1 + 1 + 1, 0, none⟩) n n, .slice (some ⟨w1.heap.size + 1, 0, none⟩) n n, .slice (some ⟨w1.heap.size + 1 + 1, 0, none⟩) (n + 1) (n + 1), .int .i64 0, .int .i64 (bud : Int)] TS)).alloc (.cells (madeCells #[.int .i64 0] n) TI)).alloc (.cells (madeCells #[.int .i64 0] (n + 1)) TI)).alloc (.cells (madeCells #[.bool false] n) TB)).drew := by
 refine ⟨w1.heap.size + 1 + 1 + 1, w1.heap.size + 1, w1.heap.size + 1 + 1, ⟨?_, ?_, ?_, ?_, ?_, ⟨by omega, by omega, by omega, by omega⟩, ⟨by omega, by omega, by omega, by omega, by omega, by omega⟩⟩⟩
 ·exact (((((Below.refl _ _).alloc (by simp) _).alloc (by simp) _).alloc (by simp <;> omega) _).alloc (by simp <;> omega) _).drew
 ·exact new_alloc (new_alloc (new_alloc (Below_heap_new w1 _) _) _) _
 ·have h := World.rowIs_made (((w1.alloc (.cells #[tv, .slice (some ⟨w1.heap.size + 1 + 1 + 1, 0, none⟩) n n, .slice (some ⟨w1.heap.size + 1, 0, none⟩) n n, .slice (some ⟨w1.heap.size + 1 + 1, 0, none⟩) (n + 1) (n + 1), .int .i64 0, .int .i64 (bud : Int)] TS)).alloc (.cells (madeCells #[.int .i64 0] n) TI)).alloc (.cells (madeCells #[.int .i64 0] (n + 1)) TI)) (.bool false) n TB
  simp only [World.size_alloc] at h
  exact h
 ·have h := World.rowIs_made (w1.alloc (.cells #[tv, .slice (some ⟨w1.heap.size + 1 + 1 + 1, 0, none⟩) n n, .slice (some ⟨w1.heap.size + 1, 0, none⟩) n n, .slice (some ⟨w1.heap.size + 1 + 1, 0, none⟩) (n + 1) (n + 1), .int .i64 0, .int .i64 (bud : Int)] TS)) (.int .i64 0) n TI
  simp only [World.size_alloc] at h
  exact ((h.alloc _).alloc _)
 ·have h := World.rowIs_made ((w1.alloc (.cells #[tv, .slice (some ⟨w1.heap.size + 1 + 1 + 1, 0, none⟩) n n, .slice (some ⟨w1.heap.size + 1, 0, none⟩) n n, .slice (some ⟨w1.heap.size + 1 + 1, 0, none⟩) (n + 1) (n + 1), .int .i64 0, .int .i64 (bud : Int)] TS)).alloc (.cells (madeCells #[.int .i64 0] n) TI)) (.int .i64 0) (n + 1) TI
  simp only [World.size_alloc] at h
  exact (h.alloc _)
theorem begun5 (TS TB TI : TypeId) (tv : Value) (n bud : Nat) (w1 : World) : ∃ Ba Bw Bb, Begun TS TB TI w1.heap.size Ba Bw Bb tv n bud w1 (fun _ => false) (fun _ => 0) ((((w1.alloc (.cells #[tv, .slice (some ⟨w1.heap.size + 1 + 1, 0, none⟩) n n, .slice (some ⟨w1.heap.size + 1 + 1 + 1, 0, none⟩) n n, .slice (some ⟨w1.heap.size + 1, 0, none⟩) (n + 1) (n + 1), .int .i64 0, .int .i64 (bud : Int)] TS)).alloc (.cells (madeCells #[.int .i64 0] (n + 1)) TI)).alloc (.cells (madeCells #[.bool false] n) TB)).alloc (.cells (madeCells #[.int .i64 0] n) TI)).drew := by
 refine ⟨w1.heap.size + 1 + 1, w1.heap.size + 1 + 1 + 1, w1.heap.size + 1, ⟨?_, ?_, ?_, ?_, ?_, ⟨by omega, by omega, by omega, by omega⟩, ⟨by omega, by omega, by omega, by omega, by omega, by omega⟩⟩⟩
 ·exact (((((Below.refl _ _).alloc (by simp) _).alloc (by simp) _).alloc (by simp <;> omega) _).alloc (by simp <;> omega) _).drew
 ·exact new_alloc (new_alloc (new_alloc (Below_heap_new w1 _) _) _) _
 ·have h := World.rowIs_made ((w1.alloc (.cells #[tv, .slice (some ⟨w1.heap.size + 1 + 1, 0, none⟩) n n, .slice (some ⟨w1.heap.size + 1 + 1 + 1, 0, none⟩) n n, .slice (some ⟨w1.heap.size + 1, 0, none⟩) (n + 1) (n + 1), .int .i64 0, .int .i64 (bud : Int)] TS)).alloc (.cells (madeCells #[.int .i64 0] (n + 1)) TI)) (.bool false) n TB
  simp only [World.size_alloc] at h
  exact (h.alloc _)
 ·have h := World.rowIs_made (((w1.alloc (.cells #[tv, .slice (some ⟨w1.heap.size + 1 + 1, 0, none⟩) n n, .slice (some ⟨w1.heap.size + 1 + 1 + 1, 0, none⟩) n n, .slice (some ⟨w1.heap.size + 1, 0, none⟩) (n + 1) (n + 1), .int .i64 0, .int .i64 (bud : Int)] TS)).alloc (.cells (madeCells #[.int .i64 0] (n + 1)) TI)).alloc (.cells (madeCells #[.bool false] n) TB)) (.int .i64 0) n TI
  simp only [World.size_alloc] at h
  exact h
 ·have h := World.rowIs_made (w1.alloc (.cells #[tv, .slice (some ⟨w1.heap.size + 1 + 1, 0, none⟩) n n, .slice (some ⟨w1.heap.size + 1 + 1 + 1, 0, none⟩) n n, .slice (some ⟨w1.heap.size + 1, 0, none⟩) (n + 1) (n + 1), .int .i64 0, .int .i64 (bud : Int)] TS)) (.int .i64 0) (n + 1) TI
  simp only [World.size_alloc] at h
  exact ((h.alloc _).alloc _)
theorem begun6 (TS TB TI : TypeId) (tv : Value) (n bud : Nat) (w1 : World) : ∃ Ba Bw Bb, Begun TS TB TI w1.heap.size Ba Bw Bb tv n bud w1 (fun _ => false) (fun _ => 0) ((((w1.alloc (.cells #[tv, .slice (some ⟨w1.heap.size + 1 + 1 + 1, 0, none⟩) n n, .slice (some ⟨w1.heap.size + 1 + 1, 0, none⟩) n n, .slice (some ⟨w1.heap.size + 1, 0, none⟩) (n + 1) (n + 1), .int .i64 0, .int .i64 (bud : Int)] TS)).alloc (.cells (madeCells #[.int .i64 0] (n + 1)) TI)).alloc (.cells (madeCells #[.int .i64 0] n) TI)).alloc (.cells (madeCells #[.bool false] n) TB)).drew := by
 refine ⟨w1.heap.size + 1 + 1 + 1, w1.heap.size + 1 + 1, w1.heap.size + 1, ⟨?_, ?_, ?_, ?_, ?_, ⟨by omega, by omega, by omega, by omega⟩, ⟨by omega, by omega, by omega, by omega, by omega, by omega⟩⟩⟩
 ·exact (((((Below.refl _ _).alloc (by simp) _).alloc (by simp) _).alloc (by simp <;> omega) _).alloc (by simp <;> omega) _).drew
 ·exact new_alloc (new_alloc (new_alloc (Below_heap_new w1 _) _) _) _
 ·have h := World.rowIs_made (((w1.alloc (.cells #[tv, .slice (some ⟨w1.heap.size + 1 + 1 + 1, 0, none⟩) n n, .slice (some ⟨w1.heap.size + 1 + 1, 0, none⟩) n n, .slice (some ⟨w1.heap.size + 1, 0, none⟩) (n + 1) (n + 1), .int .i64 0, .int .i64 (bud : Int)] TS)).alloc (.cells (madeCells #[.int .i64 0] (n + 1)) TI)).alloc (.cells (madeCells #[.int .i64 0] n) TI)) (.bool false) n TB
  simp only [World.size_alloc] at h
  exact h
 ·have h := World.rowIs_made ((w1.alloc (.cells #[tv, .slice (some ⟨w1.heap.size + 1 + 1 + 1, 0, none⟩) n n, .slice (some ⟨w1.heap.size + 1 + 1, 0, none⟩) n n, .slice (some ⟨w1.heap.size + 1, 0, none⟩) (n + 1) (n + 1), .int .i64 0, .int .i64 (bud : Int)] TS)).alloc (.cells (madeCells #[.int .i64 0] (n + 1)) TI)) (.int .i64 0) n TI
  simp only [World.size_alloc] at h
  exact (h.alloc _)
 ·have h := World.rowIs_made (w1.alloc (.cells #[tv, .slice (some ⟨w1.heap.size + 1 + 1 + 1, 0, none⟩) n n, .slice (some ⟨w1.heap.size + 1 + 1, 0, none⟩) n n, .slice (some ⟨w1.heap.size + 1, 0, none⟩) (n + 1) (n + 1), .int .i64 0, .int .i64 (bud : Int)] TS)) (.int .i64 0) (n + 1) TI
  simp only [World.size_alloc] at h
  exact ((h.alloc _).alloc _)
end Go
namespace Go.Proofs.YtbgimpeklblcjaaGreatDoor
open Go.RowKit Go.Maps
set_option maxRecDepth 100000 in
set_option maxHeartbeats 1000000 in
theorem bg1_as (A : ByteArray) (ra : Option Addr) (rn rc : Nat) (b : Nat) (nm : ByteArray) (r : Bool) (hr : (A.toList == nm.toList) = r) (w : World) (hc : w.cell? ⟨b, 0, none⟩ = some (.string nm)) :
  Calls Tryz.prog 81 #[.agg #[.string A, .slice ra rn rc], .pointer (some ⟨b, 0, none⟩)] w fun e w' => e = .returned (.bool r) ∧ Below w.heap.size w w' := by
 have hW := (Below.refl w.heap.size w).alloc (Nat.le_refl _) (.cells #[.string A, .slice ra rn rc] 60)
 have hz := cell_lt hc
 have c1 := (hW.cell (p := ⟨b, 0, none⟩) hz).trans hc
 go_enter Tryz.func81, Tryz.ntmps81
 go_wp2_with fail
 go_ret
 exact ⟨rfl, hW⟩
def BgxRel (ns : List (Want × Value)) (n : ByteArray) (w : World) (i : Value) (wr : World) : Prop :=
 ∃ k : Nat, k ≤ ns.length ∧ i = .int .i64 (k : Int) ∧ (∀ j (h : j < ns.length), j < k → S ns[j].1.name ≠ n) ∧ Below w.heap.size w wr
set_option maxRecDepth 100000 in
set_option maxHeartbeats 2000000 in
theorem bgIx_any (v : Value) (ns : List (Want × Value)) (b : Nat) (nm : ByteArray) (w : World) (hv : Wants w v ns) (hc : w.cell? ⟨b, 0, none⟩ = some (.string nm)) :
  Calls Tryz.prog 114 #[v, .func (.func 81) #[] #[.pointer (some ⟨b, 0, none⟩)]] w fun e w' => ∃ r, e = .returned (.int .i64 r) ∧ decide (0 ≤ r) = askedB ns nm ∧ Below w.heap.size w w' := by
 obtain ⟨hmx, a0, cap0, rfl⟩ := hv.len
 have HV := Lib.hid hv
 have hmx2 : ns.length ≤ 9223372036854775807 := Nat.le_trans hmx (by decide)
 have HC := Lib.hid hc
 have hz := cell_lt hc
 clear hv hc hmx
 go_enter Tryz.func114, Tryz.ntmps114
 go_wp2_with fail
 go_loopw [8] (fun i wr => BgxRel ns nm w i wr) (fun i _ => ns.length - (intOf i).toNat)
 case atStart => exact ⟨0, Nat.zero_le _, rfl, fun j h h' => by omega, Below.refl _ _⟩
 case round =>
  obtain ⟨k, hk, rfl, hall, hb⟩ := hrel
  have HA := Lib.hid hall
  clear hall
  by_cases hlt : k < ns.length
  ·have i0 : (0 : Int) ≤ (k : Int) := by omega
   have i1 : (k : Int) < (ns.length : Int) := by omega
   obtain ⟨bx, ox, rfl, hbx, c0, c1⟩ := HV.out.at' hb hlt
   have hrv := HV.out.2 _ (List.getElem_mem hlt)
   obtain ⟨⟨xw, xv⟩, hxe⟩ : ∃ x, ns[k] = x := ⟨_, rfl⟩
   rw [hxe] at c0 c1 hrv
   obtain ⟨_, ra, rcap, hrv⟩ := hrv
   simp only at c0 c1 hrv
   subst hrv
   have HX := Lib.hid hxe
   have cb := cell_on HC.out hb
   clear hxe
   by_cases he : S xw.name = nm
   ·have hr : ((S xw.name).toList == nm.toList) = true := by rw [he]; exact beq_self_eq_true _
    have HN : Hid (askedB ns nm = true) := asked_at ns k hlt (by rw [HX.out]; exact he)
    have HF := Lib.hid (bg1_as (S xw.name) ra xw.bs.length rcap b nm true hr _ cb)
    clear he hr
    go_wp2_with fail
    refine HF.out.mono ?_
    rintro e w1 ⟨rfl, hb1⟩
    have hb2 := below_then hb hb1
    clear hb1
    go_wp2_with fail
    go_ret
    exact ⟨_, rfl, by rw [HN.out]; simp, hb2⟩
   ·have hr : ((S xw.name).toList == nm.toList) = false := by rw [beq_eq_false_iff_ne]; exact fun h => he (bytes_injC h)
    have HF := Lib.hid (bg1_as (S xw.name) ra xw.bs.length rcap b nm false hr _ cb)
    have HNe := Lib.hid he
    clear he hr
    go_wp2_with fail
    refine HF.out.mono ?_
    rintro e w1 ⟨rfl, hb1⟩
    have hb2 := below_then hb hb1
    clear c0 c1 cb hb1
    go_wp2_with fail
    go_roundw
    case rel =>
     refine ⟨k + 1, hlt, by go_num, fun j h hj => ?_, hb2⟩
     by_cases hjk : j < k
     ·exact HA.out j h hjk
     ·have : j = k := by omega
      subst this
      rw [HX.out]; exact HNe.out
    case measure => simp [intOf]; omega
  ·have q5 : decide (k < ns.length) = false := decide_eq_false hlt
   have HN : Hid (askedB ns nm = false) := asked_none ns (fun j hj => HA.out j hj (by omega))
   clear hlt
   go_wp2_with fail
   go_ret
   exact ⟨_, rfl, by rw [HN.out]; rfl, hb⟩
set_option maxRecDepth 100000 in
set_option maxHeartbeats 1000000 in
theorem bgAsk_as (v : Value) (ns : List (Want × Value)) (b : Nat) (nm : ByteArray) (r : Bool) (hr : askedB ns nm = r) (w : World) (hv : Wants w v ns) (hc : w.cell? ⟨b, 0, none⟩ = some (.string nm)) :
  Calls Tryz.prog 80 #[v, .func (.func 81) #[] #[.pointer (some ⟨b, 0, none⟩)]] w fun e w' => e = .returned (.bool r) ∧ Below w.heap.size w w' := by
 have HC := Lib.hid (bgIx_any v ns b nm w hv hc)
 obtain ⟨_, a0, cap0, rfl⟩ := hv.len
 have HR := Lib.hid hr
 clear hv hc hr
 go_enter Tryz.func80, Tryz.ntmps80
 go_wp2_with fail
 refine HC.out.mono ?_
 rintro e w1 ⟨r', rfl, hr', hb1⟩
 have HR' := Lib.hid hr'
 clear hr'
 go_wp2_with fail
 go_ret
 exact ⟨by rw [← HR.out, ← HR'.out]; rfl, hb1⟩

theorem nam_at' (ts : List DPack) {i : Nat} (h : i < ts.length) : namL (ppL ts) i = ts[i].name.data.toList := by
 have h1 : i < (ppL ts).length := by rw [ppL_len]; exact h
 rw [namL_at h1, ppL_at h1 h]; rfl
theorem TabCtx.on {lock : List Pik} {needs : List (Want × Value)} {ps : List DPack} {pk lk nv : Value} {w w' : World} (h : TabCtx lock needs ps pk lk nv w) (hb : Below w.heap.size w w') : TabCtx lock needs ps pk lk nv w' :=
 ⟨h.packs.below hb (Nat.le_refl _), h.piks.below hb (Nat.le_refl _), h.wants.below hb (Nat.le_refl _), h.env.below hb, h.pkos, h.ons, h.nds, h.names, h.few⟩
def BaRel (B Ba Bw Bb : Nat) (tv : Value) (ts : List DPack) (needs : List (Want × Value)) (bud : Nat) (w1 : World) (i : Value) (wr : World) : Prop :=
 ∃ (m : Nat) (fa : Nat → Bool), m ≤ ts.length ∧ i = .int .i64 (m : Int) ∧ Begun 91 4 3 B Ba Bw Bb tv ts.length bud w1 fa (fun _ => 0) wr ∧ ∀ j, j < m → fa j = askN needs (namL (ppL ts) j)
def BbRel (B Ba Bw Bb : Nat) (tv : Value) (ts : List DPack) (needs : List (Want × Value)) (bud : Nat) (w1 : World) (fa : Nat → Bool) (i : Value) (wr : World) : Prop :=
 ∃ (m : Nat) (fb : Nat → Nat), m ≤ ts.length + 1 ∧ i = .int .i64 (m : Int) ∧ Begun 91 4 3 B Ba Bw Bb tv ts.length bud w1 fa fb wr ∧ ∀ j, j < m → fb j = min (prodL ((ksOf (askN needs) (ppL ts)).drop j)) (bud + 1)
/-- a search that is begun -/
def BeginPost (lock : List Pik) (needs : List (Want × Value)) (ps : List DPack) (bud : Nat) (w : World) (e : Ending) (w' : World) : Prop :=
 ∃ k : SK, e = .returned (.pointer (some ⟨k.B, 0, none⟩)) ∧ SK.Ok k ∧ k.needs = needs ∧ k.bud = bud ∧ TableIs lock needs ps k.ts ∧ Below w.heap.size w k.w0 ∧ Srch k w' (zerosN k.ts.length) 0
set_option maxRecDepth 100000 in
set_option maxHeartbeats 8000000 in
theorem begin_as {lock : List Pik} {needs : List (Want × Value)} {ps : List DPack} {pk lk nv : Value} {w : World} (C : TabCtx lock needs ps pk lk nv w) (hB : ∀ ts, TableIs lock needs ps ts → TabB (ppL ts)) (bud : Nat) (hb6 : bud ≤ 1000000) :
  Calls Tryz.prog 44 #[pk, lk, nv, .int .i64 (bud : Int)] w (BeginPost lock needs ps bud w) := by
 obtain ⟨hnx, a2, cap2, rfl⟩ := C.wants.len
 have HC := Lib.hid C
 have HB := Lib.hid hB
 have hmkb := fun (n : Nat) (h : n ≤ 1000001) (W : World) => run_make_row' (P := Tryz.prog) 80 4 (.bool false) 1 Tryz.underlying80 info_bool rfl .i64 .i64 n (by omega) (by omega) W
 have hmki := fun (n : Nat) (h : n ≤ 1000001) (W : World) => run_make_row' (P := Tryz.prog) 89 3 (.int .i64 0) 8 Tryz.underlying89 info_int rfl .i64 .i64 n (by omega) (by omega) W
 clear C hB
 go_enter Tryz.func44, Tryz.ntmps44
 go_wp2_with fail
 refine (table_asW HC.out).mono ?_
 rintro e w1 ⟨⟨x, ts, rfl, hpq, htq, hk1, hq1⟩, hcap⟩
 obtain ⟨_, ta, tc, rfl⟩ := hpq.len
 have HCap := Lib.hid (hcap _ _ _ rfl)
 clear hcap
 have hTB := HB.out ts htq
 have hn6 : ts.length ≤ 1000000 := by have := hTB.few; rwa [ppL_len] at this
 have hm1 := hmkb ts.length (by omega)
 have hm2 := hmki ts.length (by omega)
 have hm3 := hmki (ts.length + 1) (by omega)
 have HR := Lib.hid (⟨hpq, htq, hk1, hq1, hTB⟩ : _ ∧ _ ∧ _ ∧ _ ∧ _)
 have e1 : ((ts.length + 1 : Nat) : Int) = (ts.length : Int) + 1 := by omega
 rw [e1] at hm3
 clear hpq htq hk1 hq1 hmkb hmki hTB e1
 have hblk : (w1.alloc (.cells #[.slice ta ts.length tc, .slice none 0 0, .slice none 0 0, .slice none 0 0, .int .i64 0, .int .i64 (bud : Int)] 91)).heap[w1.heap.size]? = some (.cells #[.slice ta ts.length tc, .slice none 0 0, .slice none 0 0, .slice none 0 0, .int .i64 0, .int .i64 (bud : Int)] 91 (0, 0)) := Below_heap_new _ _
 have hal := (Below.refl w1.heap.size w1).alloc (Nat.le_refl _) (.cells #[.slice ta ts.length tc, .slice none 0 0, .slice none 0 0, .slice none 0 0, .int .i64 0, .int .i64 (bud : Int)] 91)
 have HHb := Lib.hid (⟨hblk, hal⟩ : _ ∧ _)
 clear hblk hal
 go_upto_region 3 with fail
 go_cut [] (fun wx => ∃ Ba Bw Bb, Begun 91 4 3 w1.heap.size Ba Bw Bb (.slice ta ts.length tc) ts.length bud w1 (fun _ => false) (fun _ => 0) wx)
 case first =>
  go_region
  all_goals (go_wp2; go_meet; first | exact begun1 _ _ _ _ _ _ _ | exact begun2 _ _ _ _ _ _ _ | exact begun3 _ _ _ _ _ _ _ | exact begun4 _ _ _ _ _ _ _ | exact begun5 _ _ _ _ _ _ _ | exact begun6 _ _ _ _ _ _ _)
 case rest =>
  obtain ⟨Ba, Bw, Bb, hBg⟩ := hcut
  have HBg := Lib.hid hBg
  obtain ⟨c0, c1, c3⟩ := hBg.cells
  have hmf : ∀ (fn : Fn) (first cap : Array Value) (w : World), (Instr.makeFunc fn first cap).run Tryz.prog w = .ok (.func fn first cap) w := fun _ _ _ _ => rfl
  clear hBg hm1 hm2 hm3 HHb
  go_wp2_with fail
  go_loopw [47] (fun i wr => BaRel w1.heap.size Ba Bw Bb (.slice ta ts.length tc) ts needs bud w1 i wr) (fun i _ => ts.length - (intOf i).toNat)
  case atStart => exact ⟨0, _, Nat.zero_le _, rfl, HBg.out, fun j h => absurd h (Nat.not_lt_zero _)⟩
  case round =>
   obtain ⟨m, fa, hm, rfl, hBg, hfa⟩ := hrel
   obtain ⟨c0, c1, c3⟩ := hBg.cells
   have HBr := Lib.hid hBg
   have HFa := Lib.hid hfa
   clear hfa
   by_cases hlt : m < ts.length
   ·have i0 : (0 : Int) ≤ (m : Int) := by omega
    have i1 : (m : Int) < (ts.length : Int) := by omega
    obtain ⟨bx, ox, rfl, hbx, g0, g1⟩ := HR.out.1.at' hBg.below hlt
    have hnk := nam_at' ts hlt
    obtain ⟨⟨pn, po, pa, pc⟩, hxe⟩ : ∃ x, ts[m] = x := ⟨_, rfl⟩
    rw [hxe] at g0 g1 hnk
    simp only [DPack.ov] at g0 g1 hnk
    obtain ⟨r, hr⟩ : ∃ r, askedB needs pn = r := ⟨_, rfl⟩
    have HRr : Hid (askN needs (namL (ppL ts) m) = r) := by show _ = _; rw [hnk]; exact hr
    have hal := (Below.refl wr.heap.size wr).alloc (Nat.le_refl _) (.cells #[.string pn, .slice pa po.length pc] 52)
    have e0 := box_cells (Below.refl (wr.heap.size + 1) (wr.alloc (.cells #[.string pn, .slice pa po.length pc] 52))) 0
    simp only [List.getElem?_toArray, List.getElem?_cons_zero] at e0
    have hBa := hBg.on hal
    have hd := (Below.refl (wr.alloc (.cells #[.string pn, .slice pa po.length pc] 52)).heap.size (wr.alloc (.cells #[.string pn, .slice pa po.length pc] 52))).drew
    have HBd := Lib.hid (hBa.on hd)
    have hst : (wr.alloc (.cells #[.string pn, .slice pa po.length pc] 52)).drew.cell? ⟨w1.heap.size, 1, none⟩ = some (.slice (some ⟨Ba, 0, none⟩) ts.length ts.length) := HBd.out.cells.2.1
    have HAs : Hid (∀ W, Below (wr.alloc (.cells #[.string pn, .slice pa po.length pc] 52)).drew.heap.size (wr.alloc (.cells #[.string pn, .slice pa po.length pc] 52)).drew W → Calls Tryz.prog 80 #[.slice a2 needs.length cap2, .func (.func 81) #[] #[.pointer (some ⟨wr.heap.size, 0, none⟩)]] W fun e w' => e = .returned (.bool r) ∧ Below W.heap.size W w') := fun W hW =>
     bgAsk_as _ needs wr.heap.size pn r hr W (HC.out.wants.below (below_then HR.out.2.2.1 (HBd.out.on hW).below) (Nat.le_refl _)) (cell_on (cell_on e0 hd) hW)
    clear hxe hnk hr hal e0 hBa hd c0 c3 hBg
    go_wp2_with fail
    generalize wr.alloc (.cells #[.string pn, .slice pa po.length pc] 52) = wa at *
    refine wp_region_held_drew (S := (fun W => W.cell? ⟨w1.heap.size, 1, none⟩ = some (.slice (some ⟨Ba, 0, none⟩) ts.length ts.length))) (by kernel_rfl) (hst) (fun hHeld => ?_)
    refine wpAnyH_take (i := 0) (v := ?_) rfl (by kernel_rfl) (by kernel_rfl) (by kernel_rfl) (fun _ _ _ h => h) (Or.inl ⟨by kernel_rfl, ?_⟩) hHeld ?_
    rotate_left
    ·(rintro W e0; go_simp; (try with_reducible rfl))
    (try simp only [Act.put, putL])
    refine wpAnyH_take (i := 1) (v := ?_) rfl (by kernel_rfl) (by kernel_rfl) (by kernel_rfl) (fun _ _ _ h => h) (Or.inl ⟨by kernel_rfl, ?_⟩) hHeld ?_
    rotate_left
    ·(rintro W e0; go_simp; (try with_reducible rfl))
    (try simp only [Act.put, putL])
    refine wpAnyH_take (i := 2) (v := ?_) rfl (by kernel_rfl) (by kernel_rfl) (by kernel_rfl) (fun _ _ _ h => h) (Or.inl ⟨by kernel_rfl, ?_⟩) hHeld ?_
    rotate_left
    ·(rintro W e0; go_simp; (try with_reducible rfl))
    (try simp only [Act.put, putL])
    refine wpAnyH_take (i := 3) (v := ?_) rfl (by kernel_rfl) (by kernel_rfl) (by kernel_rfl) (fun _ _ _ h => h) (Or.inl ⟨by kernel_rfl, ?_⟩) hHeld ?_
    rotate_left
    ·(rintro W e0; go_simp; (try with_reducible rfl))
    (try simp only [Act.put, putL])
    refine wpAnyH_take (i := 4) (v := ?_) rfl (by kernel_rfl) (by kernel_rfl) (by kernel_rfl) (fun _ _ _ h => h) (Or.inl ⟨by kernel_rfl, ?_⟩) hHeld ?_
    rotate_left
    ·(rintro W e0; go_simp; (try with_reducible rfl))
    (try simp only [Act.put, putL])
    refine wpAnyH_take (i := 5) (v := ?_) rfl (by kernel_rfl) (by kernel_rfl) (by kernel_rfl) (fun _ _ _ h => h) (Or.inl ⟨by kernel_rfl, ?_⟩) hHeld ?_
    rotate_left
    ·(rintro W e0; go_simp; (try with_reducible rfl))
    (try simp only [Act.put, putL])
    refine wpAnyH_take (i := 6) (v := ?_) rfl (by kernel_rfl) (by kernel_rfl) (by kernel_rfl) (fun _ _ _ h => h) (Or.inl ⟨by kernel_rfl, ?_⟩) hHeld ?_
    rotate_left
    ·(rintro W e0; go_simp; (try with_reducible rfl))
    (try simp only [Act.put, putL])
    refine wpAnyH_ready (rs := [7]) (by kernel_rfl) (by simp) ?_
    refine AllReadyH.cons rfl (fun K hK => ?_) AllReadyH.nil
    go_simp
    refine (HAs.out _ (Below.refl _ _)).mono ?_
    rintro e w12 ⟨rfl, hk12⟩
    have HB12 := Lib.hid (HBd.out.on hk12)
    have r12 := HB12.out.ask.cell hlt
    have f12 := HB12.out.ask.frozen m
    have z12 := HB12.out.ask.lt
    refine hK.out _ _ (cell_on hst hk12) (fun hHeld => ?_)
    clear hK K
    (try simp only [Act.put, putL])
    refine wpAnyH_take (i := 8) (v := ?_) rfl (by kernel_rfl) (by kernel_rfl) (by kernel_rfl) (fun _ _ _ h => h) (Or.inl ⟨by kernel_rfl, ?_⟩) hHeld ?_
    rotate_left
    ·(rintro W e0; go_simp; (try with_reducible rfl))
    (try simp only [Act.put, putL])
    refine wpAnyH_ready (rs := [9]) (by kernel_rfl) (by simp) ?_
    refine AllReadyH.cons rfl (fun K hK => ?_) AllReadyH.nil
    go_simp
    refine hK.out _ _ ((HB12.out.setA m r).cells.2.1) (fun hHeld => ?_)
    clear hK K
    (try simp only [Act.put, putL])
    refine wpAnyH_done (by kernel_rfl) ?_ _
    have HB13 := Lib.hid (HB12.out.setA m r)
    clear hst hHeld
    go_wp2_with fail
    go_roundw
    case rel =>
     refine ⟨m + 1, _, hlt, by go_num, HB13.out, fun j hj => ?_⟩
     by_cases e : j = m
     ·subst e; rw [if_pos rfl]; exact HRr.out.symm
     ·rw [if_neg e]; exact HFa.out j (by omega)
    case measure => simp [intOf]; omega
   ·have i1 : decide (m < ts.length) = false := decide_eq_false hlt
    obtain rfl : m = ts.length := by omega
    clear hlt hBg
    go_wp2_with fail
    go_loopw [67] (fun i wy => BbRel w1.heap.size Ba Bw Bb (.slice ta ts.length tc) ts needs bud w1 fa i wy) (fun i _ => ts.length + 1 - (intOf i).toNat)
    case atStart => exact ⟨0, _, Nat.zero_le _, rfl, HBr.out, fun j h => absurd h (Nat.not_lt_zero _)⟩
    case round =>
     obtain ⟨l, fb, hl, rfl, hBg, hfb⟩ := hrel
     obtain ⟨d0, d1, d3⟩ := hBg.cells
     have HB2 := Lib.hid hBg
     have HFb := Lib.hid hfb
     clear hfb
     by_cases hlt2 : l < ts.length + 1
     ·have l0 : (0 : Int) ≤ (l : Int) := by omega
      have l1 : (l : Int) < (ts.length : Int) + 1 := by omega
      have l2 : (l : Int) < ((ts.length + 1 : Nat) : Int) := by omega
      have l3 : (l : Int) ≤ (ts.length : Int) := by omega
      have hd := (Below.refl wr.heap.size wr).drew
      have HBd := Lib.hid (hBg.on hd)
      have hst : wr.drew.cell? ⟨w1.heap.size, 3, none⟩ = some (.slice (some ⟨Bb, 0, none⟩) (ts.length + 1) (ts.length + 1)) ∧ wr.drew.cell? ⟨w1.heap.size, 0, none⟩ = some (.slice ta ts.length tc) := ⟨HBd.out.cells.2.2, HBd.out.cells.1⟩
      have l3' : l < ts.length + 1 := hlt2
      obtain ⟨ip, hip, hpz0, hpz1, hpz2⟩ := info_parts info_pack
      have hst2 : ∀ W, (sizeOf (Tryz.prog.elem 22)).run Tryz.prog W = .ok 2 W := fun W => by go_simp
      have hpk : Packs wr.drew (sliced ta l ts.length tc 2) (ts.drop l) := Packs.sliced ((HR.out.1.below HBd.out.below (Nat.le_refl _))) HCap.out (by omega)
      obtain ⟨sv, hsv⟩ : ∃ v, sliced ta l ts.length tc 2 = v := ⟨_, rfl⟩
      rw [hsv] at hpk
      have hsl : ∀ W, (Instr.slice 22 (.slice ta ts.length tc) (some (.int .i64 (l : Int))) none none).run Tryz.prog W = .ok sv W := fun W => by
       have := run_slice_l (P := Tryz.prog) W 22 ta ts.length tc rfl .i64 (l : Int) l0 l3
       rw [this, hst2]
       simp [Result.andThen, hsv]
      have HCt : Hid (∀ W, Below wr.drew.heap.size wr.drew W → Calls Tryz.prog 82 #[sv, .slice a2 needs.length cap2, .int .i64 ((bud : Int) + 1)] W fun e w' => e = .returned (.int .i64 ((min (prodL ((ksOf (askN needs) (ppL ts)).drop l)) (bud + 1) : Nat) : Int)) ∧ Below W.heap.size W w') := fun W hW => by
       have h := count_any sv (.slice a2 needs.length cap2) (ts.drop l) needs (((bud + 1 : Nat)) : Int) W (hpk.below hW (Nat.le_refl _)) (HC.out.wants.below (below_then HR.out.2.2.1 (HBd.out.on hW).below) (Nat.le_refl _)) (by omega) (by omega) (fun p hp => HR.out.2.2.2.1 p (List.mem_of_mem_drop hp))
       rw [count_all, List.map_drop, ks_ways] at h
       rw [show ((bud : Int) + 1) = (((bud + 1 : Nat)) : Int) from by omega]
       exact h
      have hwb : IntKind.i64.wrap ((bud : Int) + 1) = (bud : Int) + 1 := by rw [IntKind.wrap_i64]; omega
      clear c0 c1 c3 hd hpk hsv hst2
      go_wp2_with fail
      refine wp_region_held_drew (S := (fun W => W.cell? ⟨w1.heap.size, 3, none⟩ = some (.slice (some ⟨Bb, 0, none⟩) (ts.length + 1) (ts.length + 1)) ∧ W.cell? ⟨w1.heap.size, 0, none⟩ = some (.slice ta ts.length tc))) (by kernel_rfl) (hst) (fun hHeld => ?_)
      refine wpAnyH_take (i := 0) (v := ?_) rfl (by kernel_rfl) (by kernel_rfl) (by kernel_rfl) (fun _ _ _ h => h) (Or.inl ⟨by kernel_rfl, ?_⟩) hHeld ?_
      rotate_left
      ·(rintro W ⟨e0, e1⟩; go_simp; (try with_reducible rfl))
      (try simp only [Act.put, putL])
      refine wpAnyH_take (i := 1) (v := ?_) rfl (by kernel_rfl) (by kernel_rfl) (by kernel_rfl) (fun _ _ _ h => h) (Or.inl ⟨by kernel_rfl, ?_⟩) hHeld ?_
      rotate_left
      ·(rintro W ⟨e0, e1⟩; go_simp; (try with_reducible rfl))
      (try simp only [Act.put, putL])
      refine wpAnyH_take (i := 2) (v := ?_) rfl (by kernel_rfl) (by kernel_rfl) (by kernel_rfl) (fun _ _ _ h => h) (Or.inl ⟨by kernel_rfl, ?_⟩) hHeld ?_
      rotate_left
      ·(rintro W ⟨e0, e1⟩; go_simp; (try with_reducible rfl))
      (try simp only [Act.put, putL])
      refine wpAnyH_take (i := 3) (v := ?_) rfl (by kernel_rfl) (by kernel_rfl) (by kernel_rfl) (fun _ _ _ h => h) (Or.inl ⟨by kernel_rfl, ?_⟩) hHeld ?_
      rotate_left
      ·(rintro W ⟨e0, e1⟩; go_simp; (try with_reducible rfl))
      (try simp only [Act.put, putL])
      refine wpAnyH_take (i := 4) (v := ?_) rfl (by kernel_rfl) (by kernel_rfl) (by kernel_rfl) (fun _ _ _ h => h) (Or.inl ⟨by kernel_rfl, ?_⟩) hHeld ?_
      rotate_left
      ·(rintro W ⟨e0, e1⟩; go_simp; (try with_reducible rfl))
      (try simp only [Act.put, putL])
      refine wpAnyH_take (i := 5) (v := ?_) rfl (by kernel_rfl) (by kernel_rfl) (by kernel_rfl) (fun _ _ _ h => h) (Or.inl ⟨by kernel_rfl, ?_⟩) hHeld ?_
      rotate_left
      ·(rintro W ⟨e0, e1⟩; go_simp; (try with_reducible rfl))
      (try simp only [Act.put, putL])
      refine wpAnyH_take (i := 6) (v := ?_) rfl (by kernel_rfl) (by kernel_rfl) (by kernel_rfl) (fun _ _ _ h => h) (Or.inl ⟨by kernel_rfl, ?_⟩) hHeld ?_
      rotate_left
      ·(rintro W ⟨e0, e1⟩; go_simp; (try with_reducible rfl))
      (try simp only [Act.put, putL])
      refine wpAnyH_take (i := 7) (v := ?_) rfl (by kernel_rfl) (by kernel_rfl) (by kernel_rfl) (fun _ _ _ h => h) (Or.inl ⟨by kernel_rfl, ?_⟩) hHeld ?_
      rotate_left
      ·(rintro W ⟨e0, e1⟩; go_simp; (try with_reducible rfl))
      (try simp only [Act.put, putL])
      refine wpAnyH_take (i := 8) (v := ?_) rfl (by kernel_rfl) (by kernel_rfl) (by kernel_rfl) (fun _ _ _ h => h) (Or.inl ⟨by kernel_rfl, ?_⟩) hHeld ?_
      rotate_left
      ·(rintro W ⟨e0, e1⟩; go_simp; (try with_reducible rfl))
      (try simp only [Act.put, putL])
      refine wpAnyH_take (i := 9) (v := ?_) rfl (by kernel_rfl) (by kernel_rfl) (by kernel_rfl) (fun _ _ _ h => h) (Or.inl ⟨by kernel_rfl, ?_⟩) hHeld ?_
      rotate_left
      ·(rintro W ⟨e0, e1⟩; go_simp; (try with_reducible rfl))
      (try simp only [Act.put, putL])
      refine wpAnyH_take (i := 10) (v := ?_) rfl (by kernel_rfl) (by kernel_rfl) (by kernel_rfl) (fun _ _ _ h => h) (Or.inl ⟨by kernel_rfl, ?_⟩) hHeld ?_
      rotate_left
      ·(rintro W ⟨e0, e1⟩; go_simp; (try with_reducible rfl))
      (try simp only [Act.put, putL])
      refine wpAnyH_take (i := 11) (v := ?_) rfl (by kernel_rfl) (by kernel_rfl) (by kernel_rfl) (fun _ _ _ h => h) (Or.inl ⟨by kernel_rfl, ?_⟩) hHeld ?_
      rotate_left
      ·(rintro W ⟨e0, e1⟩; go_simp; (try with_reducible rfl))
      (try simp only [Act.put, putL])
      refine wpAnyH_take (i := 12) (v := ?_) rfl (by kernel_rfl) (by kernel_rfl) (by kernel_rfl) (fun _ _ _ h => h) (Or.inl ⟨by kernel_rfl, ?_⟩) hHeld ?_
      rotate_left
      ·(rintro W ⟨e0, e1⟩; go_simp; (try with_reducible rfl))
      (try simp only [Act.put, putL])
      refine wpAnyH_take (i := 13) (v := ?_) rfl (by kernel_rfl) (by kernel_rfl) (by kernel_rfl) (fun _ _ _ h => h) (Or.inl ⟨by kernel_rfl, ?_⟩) hHeld ?_
      rotate_left
      ·(rintro W ⟨e0, e1⟩; go_simp; (try with_reducible rfl))
      (try simp only [Act.put, putL])
      refine wpAnyH_ready (rs := [14]) (by kernel_rfl) (by simp) ?_
      refine AllReadyH.cons rfl (fun K hK => ?_) AllReadyH.nil
      go_simp
      refine (HCt.out _ (Below.refl _ _)).mono ?_
      rintro e w12 ⟨rfl, hk12⟩
      have HB12 := Lib.hid (HBd.out.on hk12)
      have r12 := HB12.out.bel.cell l3'
      have f12 := HB12.out.bel.frozen l
      have z12 := HB12.out.bel.lt
      refine hK.out _ _ (⟨cell_on hHeld.1 hk12, cell_on hHeld.2 hk12⟩) (fun hHeld => ?_)
      clear hK K
      (try simp only [Act.put, putL])
      refine wpAnyH_take (i := 15) (v := ?_) rfl (by kernel_rfl) (by kernel_rfl) (by kernel_rfl) (fun _ _ _ h => h) (Or.inl ⟨by kernel_rfl, ?_⟩) hHeld ?_
      rotate_left
      ·(rintro W ⟨e0, e1⟩; go_simp; (try with_reducible rfl))
      (try simp only [Act.put, putL])
      refine wpAnyH_ready (rs := [16]) (by kernel_rfl) (by simp) ?_
      refine AllReadyH.cons rfl (fun K hK => ?_) AllReadyH.nil
      go_simp
      refine hK.out _ _ (⟨(HB12.out.setB l _).cells.2.2, (HB12.out.setB l _).cells.1⟩) (fun hHeld => ?_)
      clear hK K
      (try simp only [Act.put, putL])
      refine wpAnyH_done (by kernel_rfl) ?_ _
      have HB13 := Lib.hid (HB12.out.setB l (min (prodL ((ksOf (askN needs) (ppL ts)).drop l)) (bud + 1)))
      clear hst hHeld
      go_wp2_with fail
      go_roundw
      case rel =>
       refine ⟨l + 1, _, by omega, by go_num, HB13.out, fun j hj => ?_⟩
       by_cases e : j = l
       ·subst e; rw [if_pos rfl]
       ·rw [if_neg e]; exact HFb.out j (by omega)
      case measure => simp [intOf]; omega
     ·have l1 : ¬ (l : Int) < (ts.length : Int) + 1 := by omega
      have l2 : ¬ (l : Int) < ((ts.length + 1 : Nat) : Int) := by omega
      obtain rfl : l = ts.length + 1 := by omega
      have HF : Hid (BeginPost lock needs ps bud w (.returned (.pointer (some ⟨w1.heap.size, 0, none⟩))) wr) := by
       obtain ⟨g1, g2, g3, g4⟩ := hBg.g
       refine ⟨⟨w1, w1.heap.size, Ba, Bw, Bb, ta, tc, ts, needs, bud⟩, rfl, ⟨HR.out.1, HC.out.env.below HR.out.2.2.1, table_W HR.out.2.1, HR.out.2.2.2.2, ⟨g1, g2, g3, g4⟩, hBg.ap, hb6⟩, rfl, rfl, HR.out.2.1, HR.out.2.2.1, ⟨hBg.below, hBg.blk, hBg.ask.congr fun j hj => ?_, hBg.way.congr fun j hj => ?_, hBg.bel.congr fun j hj => ?_, by simp [zerosN]⟩⟩
       ·rw [HFa.out j hj]; rfl
       ·simp [zerosN, List.getD_eq_getElem?_getD, hj]
       ·rw [HFb.out j hj]; rfl
      clear hlt2 hBg
      go_wp2_with fail
      go_ret
      exact HF.out
end Go.Proofs.YtbgimpeklblcjaaGreatDoor
