/- The reference of layer 5: one, Meets: walks. -/
import Derived.Test.YtbgimpeklblcjaaGreatDoorRanRef1
import Derived.Test.YtbgimpeklblcjaaGreatDoorSeC
import Derived.Test.YtbgimpeklblcjaaGreatDoorSemRefs
namespace Go.Proofs.YtbgimpeklblcjaaGreatDoor
open Go.RowKit
theorem refCmpQ_as (x y : V4) (r : Int) (h : V4.cmp x y = r) (w : World) (hp : x.p.size ≤ 300) (hp' : y.p.size ≤ 300) :
  Calls Tryz.prog 37 #[.agg #[.int .i64 x.a, .int .i64 x.b, .int .i64 x.c, .string x.p], .agg #[.int .i64 y.a, .int .i64 y.b, .int .i64 y.c, .string y.p]] w fun e w' => e = .returned (.int .i64 r) ∧ Below w.heap.size w w' := by
 subst h; exact refCmp_any _ _ _ _ _ _ _ _ w hp hp'
set_option maxRecDepth 100000 in
set_option maxHeartbeats 4000000 in
theorem refOne_any (x : V4) (op : Int) (y : V4) (w : World) (hx : x.p.size ≤ 300) (hy : y.p.size ≤ 300) :
  Calls Tryz.prog 120 #[.agg #[.int .i64 x.a, .int .i64 x.b, .int .i64 x.c, .string x.p], .agg #[.int .i64 op, .int .i64 y.a, .int .i64 y.b, .int .i64 y.c, .string y.p]] w fun e w' => e = .returned (.bool (meets1 x ⟨op, y⟩)) ∧ Below w.heap.size w w' := by
 obtain ⟨r, hr⟩ : ∃ r, V4.cmp x y = r := ⟨_, rfl⟩
 have HR := Lib.hid hr
 clear hr
 have hop : op = 1 ∨ op = 2 ∨ op = 3 ∨ op = 4 ∨ op = 5 ∨ (op ≠ 1 ∧ op ≠ 2 ∧ op ≠ 3 ∧ op ≠ 4 ∧ op ≠ 5) := by omega
 rcases hop with rfl | rfl | rfl | rfl | rfl | ⟨h1, h2, h3, h4, h5⟩
 ·have HV : Hid (meets1 x ⟨1, y⟩ = decide (r < 0)) := by show _ = _; simp [meets1, HR.out]
  go_enter Tryz.func120, Tryz.ntmps120
  go_wp2_with fail
  refine (refCmpQ_as x y r HR.out _ hx hy).mono ?_
  rintro e w1 ⟨rfl, hb1⟩
  obtain ⟨_, d0⟩ := two_cells hb1 0
  have hW := two_below hb1
  have hB2 := cell_lt d0
  simp at d0
  clear hb1
  go_wp2_with fail
  go_ret
  exact ⟨by rw [HV.out]; rfl, hW⟩
 ·have HV : Hid (meets1 x ⟨2, y⟩ = decide (r ≤ 0)) := by show _ = _; simp [meets1, HR.out]
  go_enter Tryz.func120, Tryz.ntmps120
  go_wp2_with fail
  refine (refCmpQ_as x y r HR.out _ hx hy).mono ?_
  rintro e w1 ⟨rfl, hb1⟩
  obtain ⟨_, d0⟩ := two_cells hb1 0
  have hW := two_below hb1
  have hB2 := cell_lt d0
  simp at d0
  clear hb1
  go_wp2_with fail
  go_ret
  exact ⟨by rw [HV.out]; rfl, hW⟩
 ·have HV : Hid (meets1 x ⟨3, y⟩ = (r == 0)) := by show _ = _; simp [meets1, HR.out]; rfl
  go_enter Tryz.func120, Tryz.ntmps120
  go_wp2_with fail
  refine (refCmpQ_as x y r HR.out _ hx hy).mono ?_
  rintro e w1 ⟨rfl, hb1⟩
  obtain ⟨_, d0⟩ := two_cells hb1 0
  have hW := two_below hb1
  have hB2 := cell_lt d0
  simp at d0
  clear hb1
  go_wp2_with fail
  go_ret
  exact ⟨by rw [HV.out]; rfl, hW⟩
 ·have HV : Hid (meets1 x ⟨4, y⟩ = decide (0 ≤ r)) := by show _ = _; simp [meets1, HR.out]
  go_enter Tryz.func120, Tryz.ntmps120
  go_wp2_with fail
  refine (refCmpQ_as x y r HR.out _ hx hy).mono ?_
  rintro e w1 ⟨rfl, hb1⟩
  obtain ⟨_, d0⟩ := two_cells hb1 0
  have hW := two_below hb1
  have hB2 := cell_lt d0
  simp at d0
  clear hb1
  go_wp2_with fail
  go_ret
  exact ⟨by rw [HV.out]; rfl, hW⟩
 ·have HV : Hid (meets1 x ⟨5, y⟩ = decide (0 < r)) := by show _ = _; simp [meets1, HR.out]
  go_enter Tryz.func120, Tryz.ntmps120
  go_wp2_with fail
  refine (refCmpQ_as x y r HR.out _ hx hy).mono ?_
  rintro e w1 ⟨rfl, hb1⟩
  obtain ⟨_, d0⟩ := two_cells hb1 0
  have hW := two_below hb1
  have hB2 := cell_lt d0
  simp at d0
  clear hb1
  go_wp2_with fail
  go_ret
  exact ⟨by rw [HV.out]; rfl, hW⟩
 ·have q1 : (op == 1) = false := by simpa using h1
  have q2 : (op == 2) = false := by simpa using h2
  have q3 : (op == 3) = false := by simpa using h3
  have q4 : (op == 4) = false := by simpa using h4
  have q5 : (op == 5) = false := by simpa using h5
  have HV : Hid (meets1 x ⟨op, y⟩ = false) := by show _ = _; simp [meets1, h1, h2, h3, h4, h5]
  clear h1 h2 h3 h4 h5
  go_enter Tryz.func120, Tryz.ntmps120
  go_wp2_with fail
  refine (refCmpQ_as x y r HR.out _ hx hy).mono ?_
  rintro e w1 ⟨rfl, hb1⟩
  obtain ⟨_, d0⟩ := two_cells hb1 0
  have hW := two_below hb1
  have hB2 := cell_lt d0
  simp at d0
  clear hb1
  go_wp2_with fail
  go_ret
  exact ⟨by rw [HV.out]; rfl, hW⟩
theorem refOne_as (x : V4) (op : Int) (y : V4) (r : Bool) (h : meets1 x ⟨op, y⟩ = r) (w : World) (hx : x.p.size ≤ 300) (hy : y.p.size ≤ 300) :
  Calls Tryz.prog 120 #[.agg #[.int .i64 x.a, .int .i64 x.b, .int .i64 x.c, .string x.p], .agg #[.int .i64 op, .int .i64 y.a, .int .i64 y.b, .int .i64 y.c, .string y.p]] w fun e w' => e = .returned (.bool r) ∧ Below w.heap.size w w' := by
 subst h; exact refOne_any x op y w hx hy
set_option maxRecDepth 100000 in
set_option maxHeartbeats 4000000 in
theorem rmeets_any (x : V4) (v : Value) (bs : List Bnd) (w : World) (hv : Bnds w v bs) (hlen : ∃ a cap, v = .slice a bs.length cap) (hx : x.p.size ≤ 300) (hp : ∀ b ∈ bs, b.v.p.size ≤ 300) (hn : bs.length ≤ 1000) :
  Calls Tryz.prog 88 #[.agg #[.int .i64 x.a, .int .i64 x.b, .int .i64 x.c, .string x.p], v] w fun e w' => e = .returned (.bool (meetsR x bs)) ∧ Below w.heap.size w w' := by
 have HP := Lib.hid hp
 clear hp
 obtain ⟨a0, cap0, rfl⟩ := hlen
 have HC := Lib.hid hv.cases.2
 clear hv
 go_enter Tryz.func88, Tryz.ntmps88
 go_wp2_with fail
 go_loopw [5] (fun i wr => MtRel x bs w i wr) (fun i _ => bs.length - (intOf i).toNat)
 case atStart => exact ⟨0, Nat.zero_le _, rfl, rfl, Below.refl _ _⟩
 case round =>
  obtain ⟨k, hk, rfl, hall, hb⟩ := hrel
  have HA := Lib.hid hall
  clear hall
  have hW := below_first hb
  by_cases hlt : k < bs.length
  ·have i0 : (0 : Int) ≤ (k : Int) := by omega
   have i1 : (k : Int) < (bs.length : Int) := by omega
   obtain ⟨bx, ox, cap, hva, hn0, hbx, hc⟩ : ∃ b off cap, (Value.slice a0 bs.length cap0 = Value.slice (some ⟨b, off, none⟩) bs.length cap) ∧ 0 < bs.length ∧ b < w.heap.size ∧ ∀ j (h : j < bs.length), w.cell? ⟨b, off + j * 5, none⟩ = some (.int .i64 bs[j].op) ∧
     w.cell? ⟨b, off + j * 5 + 1, none⟩ = some (.int .i64 bs[j].v.a) ∧ w.cell? ⟨b, off + j * 5 + 2, none⟩ = some (.int .i64 bs[j].v.b) ∧ w.cell? ⟨b, off + j * 5 + 3, none⟩ = some (.int .i64 bs[j].v.c) ∧
     w.cell? ⟨b, off + j * 5 + 4, none⟩ = some (.string bs[j].v.p) := by
    rcases HC.out with ⟨a, cap, hva, he⟩ | h
    ·rw [he] at hlt; simp at hlt
    ·exact h
   have ha0 : a0 = some ⟨bx, ox, none⟩ := by injection hva
   subst ha0
   obtain ⟨g0, g1, g2, g3, g4⟩ := hc k hlt
   have c0 := (hW.cell (p := ⟨bx, ox + k * 5, none⟩) hbx).trans g0
   have c1 := (hW.cell (p := ⟨bx, ox + k * 5 + 1, none⟩) hbx).trans g1
   have c2 := (hW.cell (p := ⟨bx, ox + k * 5 + 2, none⟩) hbx).trans g2
   have c3 := (hW.cell (p := ⟨bx, ox + k * 5 + 3, none⟩) hbx).trans g3
   have c4 := (hW.cell (p := ⟨bx, ox + k * 5 + 4, none⟩) hbx).trans g4
   have d0 := box_cells hb 0
   have d1 := box_cells hb 1
   have d2 := box_cells hb 2
   have d3 := box_cells hb 3
   simp at d0 d1 d2 d3
   have hpx := HP.out _ (List.getElem_mem hlt)
   have hmem := List.getElem_mem hlt
   obtain ⟨op, y, hye⟩ : ∃ op y, bs[k] = ⟨op, y⟩ := ⟨_, _, rfl⟩
   rw [hye] at c0 c1 c2 c3 c4 hpx hmem
   simp only at c0 c1 c2 c3 c4 hpx
   have HT := Lib.hid (List.take_succ_eq_append_getElem hlt)
   have HY := Lib.hid hye
   have HM := Lib.hid hmem
   obtain ⟨r, hr⟩ : ∃ r, meets1 x ⟨op, y⟩ = r := ⟨_, rfl⟩
   have HR := Lib.hid hr
   have hz1 := cell_lt d0
   clear g0 g1 g2 g3 g4 hye hc hva hmem hr
   cases r
   ·go_wp2_with fail
    refine region_still_tail 5 (by kernel_rfl) (by kernel_rfl) ?_
    simp only [List.take_succ_cons, List.take_zero, List.drop_succ_cons, List.drop_zero]
    repeat still_step
    refine wpStill_nil ?_
    go_wp2_with fail
    refine (refOne_as x op y false HR.out _ hx hpx).mono ?_
    rintro e w2 ⟨rfl, hb2⟩
    have hb3 := box_then hb.drew hb2
    go_wp2_with fail
    go_ret
    exact ⟨by rw [meets_no HM.out HR.out]; rfl, below_first hb3⟩
   ·go_wp2_with fail
    refine region_still_tail 5 (by kernel_rfl) (by kernel_rfl) ?_
    simp only [List.take_succ_cons, List.take_zero, List.drop_succ_cons, List.drop_zero]
    repeat still_step
    refine wpStill_nil ?_
    go_wp2_with fail
    refine (refOne_as x op y true HR.out _ hx hpx).mono ?_
    rintro e w2 ⟨rfl, hb2⟩
    have hb3 := box_then hb.drew hb2
    go_wp2_with fail
    go_roundw
    case rel =>
     refine ⟨k + 1, hlt, by go_num, ?_, hb3⟩
     rw [HT.out, List.all_append, HA.out, HY.out]; simp [HR.out]
    case measure => simp [intOf]; omega
  ·have q : decide (k < bs.length) = false := by simp; omega
   have HF : Hid (meetsR x bs = true) := by
    show _ = _
    have h := HA.out
    rw [List.take_of_length_le (by omega)] at h
    exact h
   clear hlt
   go_wp2_with fail
   go_ret
   exact ⟨by rw [HF.out]; rfl, hW⟩
end Go.Proofs.YtbgimpeklblcjaaGreatDoor
