/- The program's ranges: sign, Check: walks. The program's ranges: Meets: a walk. -/
import Derived.Test.YtbgimpeklblcjaaGreatDoorSeA
import Derived.Test.YtbgimpeklblcjaaGreatDoorVerMath
import Derived.Test.YtbgimpeklblcjaaGreatDoorCells
import Derived.Test.YtbgimpeklblcjaaGreatDoorSeB
namespace Go.Proofs.YtbgimpeklblcjaaGreatDoor
open Go.RowKit
theorem checkQ_as (v : V4) (r : Int) (h : verErr v.a v.b v.c v.p.data.toList = r) (w : World) (hE : Env w) (hs : v.p.size ≤ 9223372036854775807) :
  Calls Tryz.prog 27 #[.agg #[.int .i64 v.a, .int .i64 v.b, .int .i64 v.c, .string v.p]] w fun e w' => e = .returned (.int .i64 r) ∧ Below w.heap.size w w' := by
 subst h; exact check_any _ _ _ _ w hE hs
set_option maxRecDepth 100000 in
set_option maxHeartbeats 1000000 in
theorem sign_any (op : Int) (w : World) :
  Calls Tryz.prog 89 #[.int .i64 op] w fun e w' => e = .returned (.string (S (signL op))) ∧ w' = w := by
 by_cases h1 : op = 1
 ·subst h1
  go_enter Tryz.func89, Tryz.ntmps89
  go_wp2_with fail
  go_ret
  exact ⟨rfl, rfl⟩
 by_cases h2 : op = 2
 ·subst h2
  go_enter Tryz.func89, Tryz.ntmps89
  go_wp2_with fail
  go_ret
  exact ⟨rfl, rfl⟩
 by_cases h3 : op = 3
 ·subst h3
  go_enter Tryz.func89, Tryz.ntmps89
  go_wp2_with fail
  go_ret
  exact ⟨rfl, rfl⟩
 by_cases h4 : op = 4
 ·subst h4
  go_enter Tryz.func89, Tryz.ntmps89
  go_wp2_with fail
  go_ret
  exact ⟨rfl, rfl⟩
 by_cases h5 : op = 5
 ·subst h5
  go_enter Tryz.func89, Tryz.ntmps89
  go_wp2_with fail
  go_ret
  exact ⟨rfl, rfl⟩
 have q1 : (op == 1) = false := by simpa using h1
 have q2 : (op == 2) = false := by simpa using h2
 have q3 : (op == 3) = false := by simpa using h3
 have q4 : (op == 4) = false := by simpa using h4
 have q5 : (op == 5) = false := by simpa using h5
 have H : Hid (signL op = []) := by show _ = _; unfold signL; rw [if_neg h1, if_neg h2, if_neg h3, if_neg h4, if_neg h5]
 clear h1 h2 h3 h4 h5
 go_enter Tryz.func89, Tryz.ntmps89
 go_wp2_with fail
 go_ret
 exact ⟨by rw [H.out]; rfl, rfl⟩
theorem sign_as (op : Int) (A : ByteArray) (h : S (signL op) = A) (w : World) :
  Calls Tryz.prog 89 #[.int .i64 op] w fun e w' => e = .returned (.string A) ∧ w' = w := by
 subst h; exact sign_any op w
theorem sign_empty (op : Int) : (signL op).isEmpty = !opOk op := by
 by_cases h : opOk op = true
 ·simp [opOk] at h
  have h2 : op = 1 ∨ op = 2 ∨ op = 3 ∨ op = 4 ∨ op = 5 := by omega
  rcases h2 with rfl | rfl | rfl | rfl | rfl <;> decide
 ·have h' : opOk op = false := by simpa using h
  rw [h']
  simp [opOk] at h'
  unfold signL
  rw [if_neg (by omega), if_neg (by omega), if_neg (by omega), if_neg (by omega), if_neg (by omega)]
  rfl
def CkRel (bs : List Bnd) (w : World) (i : Value) (wr : World) : Prop :=
 ∃ k : Nat, k ≤ bs.length ∧ i = .int .i64 (k : Int) ∧ (bs.take k).all Bnd.ok = true ∧ Below w.heap.size w wr
theorem ran_no {bs : List Bnd} {b : Bnd} (h : b ∈ bs) (hb : b.ok = false) : rangeErr bs = 50 := by
 have : rangeOk bs = false := by
  rw [Bool.eq_false_iff]; intro hr
  have := (rangeOk_all hr).2 b h
  rw [hb] at this; cases this
 unfold rangeErr; rw [this]; rfl
set_option maxRecDepth 100000 in
set_option maxHeartbeats 2000000 in
theorem rcheck_any (v : Value) (bs : List Bnd) (w : World) (hv : Bnds w v bs) (hlen : ∃ a cap, v = .slice a bs.length cap) (hE : Env w) (hp : ∀ x ∈ bs, x.v.p.size ≤ 9223372036854775807) :
  Calls Tryz.prog 49 #[v] w fun e w' => e = .returned (.int .i64 (rangeErr bs)) ∧ Below w.heap.size w w' := by
 have HP := Lib.hid hp
 have HE := Lib.hid hE
 clear hp hE
 obtain ⟨a0, cap0, rfl⟩ := hlen
 by_cases hbig : 20 < bs.length
 ·have q : decide (20 < (bs.length : Int)) = true := by simp; omega
  have HF : Hid (rangeErr bs = 50) := by
   show _ = _
   unfold rangeErr rangeOk
   rw [decide_eq_false (by omega)]; rfl
  clear hv hbig
  go_enter Tryz.func49, Tryz.ntmps49
  go_wp2_with fail
  go_ret
  exact ⟨by rw [HF.out]; rfl, Below.refl _ _⟩
 have q : decide (20 < (bs.length : Int)) = false := by simp; omega
 have hs20 : bs.length ≤ 20 := by omega
 have HC := Lib.hid hv.cases.2
 clear hv hbig
 go_enter Tryz.func49, Tryz.ntmps49
 go_wp2_with fail
 go_loopw [4, 10] (fun _ i wr => CkRel bs w i wr) (fun _ i _ => bs.length - (intOf i).toNat)
 case atStart => exact ⟨0, Nat.zero_le _, rfl, rfl, Below.refl _ _⟩
 case round =>
  obtain ⟨k, hk, rfl, hall, hb⟩ := hrel
  have HA := Lib.hid hall
  clear hall
  by_cases hlt : k < bs.length
  ·have i0 : (0 : Int) ≤ (k : Int) := by omega
   have i1 : (k : Int) < (bs.length : Int) := by omega
   obtain ⟨bx, ox, cap, hva, hn0, hbx, hc⟩ : ∃ b off cap, (Value.slice a0 bs.length cap0 = Value.slice (some ⟨b, off, none⟩) bs.length cap) ∧ 0 < bs.length ∧ b < w.heap.size ∧ ∀ j (h : j < bs.length), w.cell? ⟨b, off + j * 5, none⟩ = some (.int .i64 bs[j].op) ∧
     w.cell? ⟨b, off + j * 5 + 1, none⟩ = some (.int .i64 bs[j].v.a) ∧ w.cell? ⟨b, off + j * 5 + 2, none⟩ = some (.int .i64 bs[j].v.b) ∧ w.cell? ⟨b, off + j * 5 + 3, none⟩ = some (.int .i64 bs[j].v.c) ∧
     w.cell? ⟨b, off + j * 5 + 4, none⟩ = some (.string bs[j].v.p) := by
    rcases HC.out with ⟨a, cap, hva, he⟩ | h
    ·rw [he] at hlt; simp at hlt
    ·exact h
   have ha0 : a0 = some ⟨bx, ox, none⟩ := by injection hva
   subst ha0
   obtain ⟨g0, g1, g2, g3, g4⟩ := hc k hlt
   have c0 := (hb.cell (p := ⟨bx, ox + k * 5, none⟩) hbx).trans g0
   have c1 := (hb.cell (p := ⟨bx, ox + k * 5 + 1, none⟩) hbx).trans g1
   have c2 := (hb.cell (p := ⟨bx, ox + k * 5 + 2, none⟩) hbx).trans g2
   have c3 := (hb.cell (p := ⟨bx, ox + k * 5 + 3, none⟩) hbx).trans g3
   have c4 := (hb.cell (p := ⟨bx, ox + k * 5 + 4, none⟩) hbx).trans g4
   have hpx := HP.out _ (List.getElem_mem hlt)
   have hmem := List.getElem_mem hlt
   obtain ⟨x, hxe⟩ : ∃ x, bs[k] = x := ⟨_, rfl⟩
   rw [hxe] at c0 c1 c2 c3 c4 hpx hmem
   have HT := Lib.hid (List.take_succ_eq_append_getElem hlt)
   have HX := Lib.hid hxe
   have HM := Lib.hid hmem
   obtain ⟨A, hA⟩ : ∃ A, S (signL x.op) = A := ⟨_, rfl⟩
   have HSA := Lib.hid hA
   have hAe : A.toList.isEmpty = !opOk x.op := by rw [← hA, S_toList]; exact sign_empty _
   clear g0 g1 g2 g3 g4 hxe hc hva hmem hA
   by_cases ho : opOk x.op = true
   ·rw [ho] at hAe
    simp only [Bool.not_true] at hAe
    obtain ⟨r, hr⟩ : ∃ r, verErr x.v.a x.v.b x.v.c x.v.p.data.toList = r := ⟨_, rfl⟩
    have HR := Lib.hid hr
    have HO := Lib.hid ho
    clear hr ho
    go_wp2_with fail
    refine (sign_as x.op A HSA.out _).mono ?_
    rintro e w1 ⟨rfl, rfl⟩
    go_wp2_with fail
    refine (checkQ_as x.v r HR.out _ ((HE.out.below hb).alloc _) hpx).mono ?_
    rintro e w2 ⟨rfl, hb2⟩
    have hb3 := below_then hb (below_first (box_of hb2))
    by_cases hz : r = 0
    ·have hq : (r != 0) = false := by simpa using hz
     have HOK : Hid (x.ok = true) := by
      show _ = _
      unfold Bnd.ok V4.ok
      rw [HO.out, Bool.true_and]
      have h := HR.out
      rw [hz] at h
      unfold verErr at h
      by_cases hv : verOk x.v.a x.v.b x.v.c x.v.p.data.toList = true
      ·exact hv
      ·rw [if_neg hv] at h; cases h
     clear hz
     go_wp2_with fail
     go_roundw
     case rel =>
      refine ⟨k + 1, hlt, by go_num, ?_, hb3⟩
      rw [HT.out, List.all_append, HA.out, HX.out]; simp [HOK.out]
     case measure => simp [intOf]; omega
    ·have hq : (r != 0) = true := by simpa using hz
     have HF : Hid (rangeErr bs = 50) := by
      refine ran_no HM.out ?_
      unfold Bnd.ok V4.ok
      rw [HO.out, Bool.true_and, Bool.eq_false_iff]
      intro hv
      have h := HR.out
      unfold verErr at h
      rw [if_pos hv] at h
      exact hz h.symm
     clear hz
     go_wp2_with fail
     go_ret
     exact ⟨by rw [HF.out]; rfl, hb3⟩
   ·rw [Bool.not_eq_true] at ho
    rw [ho] at hAe
    simp only [Bool.not_false] at hAe
    have HF : Hid (rangeErr bs = 50) := by
     refine ran_no HM.out ?_
     unfold Bnd.ok; rw [ho]; rfl
    clear ho
    have hb3 := hb.alloc (hb.size) (.cells #[.int .i64 x.op, .int .i64 x.v.a, .int .i64 x.v.b, .int .i64 x.v.c, .string x.v.p] 64)
    go_wp2_with fail
    refine (sign_as x.op A HSA.out _).mono ?_
    rintro e w1 ⟨rfl, rfl⟩
    go_wp2_with fail
    go_ret
    exact ⟨by rw [HF.out]; rfl, hb3⟩
  ·have q2 : decide (k < bs.length) = false := by simp; omega
   obtain rfl : k = bs.length := by omega
   have HF : Hid (rangeErr bs = 0) := by
    show _ = _
    have h := HA.out
    rw [List.take_of_length_le (Nat.le_refl _)] at h
    unfold rangeErr rangeOk
    rw [h, decide_eq_true hs20]; rfl
   go_wp2_with fail
   go_ret
   exact ⟨by rw [HF.out]; rfl, hb⟩
end Go.Proofs.YtbgimpeklblcjaaGreatDoor

namespace Go.Proofs.YtbgimpeklblcjaaGreatDoor
open Go.RowKit
theorem cmpQ_as (x y : V4) (r : Int) (h : V4.cmp x y = r) (w : World) (hE : Env w) (hp : x.p.size ≤ 300) (hp' : y.p.size ≤ 300) :
  Calls Tryz.prog 30 #[.agg #[.int .i64 x.a, .int .i64 x.b, .int .i64 x.c, .string x.p], .agg #[.int .i64 y.a, .int .i64 y.b, .int .i64 y.c, .string y.p]] w fun e w' => e = .returned (.int .i64 r) ∧ Below w.heap.size w w' := by
 subst h; exact cmpP_any _ _ _ _ _ _ _ _ w hE hp hp'
def MtRel (v : V4) (bs : List Bnd) (w : World) (i : Value) (wr : World) : Prop :=
 ∃ k : Nat, k ≤ bs.length ∧ i = .int .i64 (k : Int) ∧ (bs.take k).all (meets1 v) = true ∧
  Below (w.heap.size + 1) (w.alloc (.cells #[.int .i64 v.a, .int .i64 v.b, .int .i64 v.c, .string v.p] 41)) wr
theorem meets_no {v : V4} {bs : List Bnd} {b : Bnd} (h : b ∈ bs) (hb : meets1 v b = false) : meetsR v bs = false := by
 unfold meetsR
 rw [Bool.eq_false_iff]; intro hr
 have := List.all_eq_true.1 hr b h
 rw [hb] at this; cases this
set_option maxRecDepth 100000 in
set_option maxHeartbeats 4000000 in
theorem meets_any (x : V4) (v : Value) (bs : List Bnd) (w : World) (hv : Bnds w v bs) (hlen : ∃ a cap, v = .slice a bs.length cap) (hE : Env w) (hx : x.p.size ≤ 300) (hp : ∀ b ∈ bs, b.v.p.size ≤ 300) (hn : bs.length ≤ 1000) :
  Calls Tryz.prog 137 #[.agg #[.int .i64 x.a, .int .i64 x.b, .int .i64 x.c, .string x.p], v] w fun e w' => e = .returned (.bool (meetsR x bs)) ∧ Below w.heap.size w w' := by
 have HP := Lib.hid hp
 have HE := Lib.hid hE
 clear hp hE
 obtain ⟨a0, cap0, rfl⟩ := hlen
 have HC := Lib.hid hv.cases.2
 clear hv
 go_enter Tryz.func137, Tryz.ntmps137
 go_wp2_with fail
 go_loopw [6, 7, 10] (fun _ _ i wr => MtRel x bs w i wr) (fun _ _ i _ => bs.length - (intOf i).toNat)
 case atStart => exact ⟨0, Nat.zero_le _, rfl, rfl, Below.refl _ _⟩
 case round =>
  obtain ⟨k, hk, rfl, hall, hb⟩ := hrel
  have HA := Lib.hid hall
  clear hall
  have hW := below_first hb
  by_cases hlt : k < bs.length
  ·have i0 : (0 : Int) ≤ (k : Int) := by omega
   have i1 : (k : Int) < (bs.length : Int) := by omega
   obtain ⟨bx, ox, cap, hva, hn0, hbx, hc⟩ : ∃ b off cap, (Value.slice a0 bs.length cap0 = Value.slice (some ⟨b, off, none⟩) bs.length cap) ∧ 0 < bs.length ∧ b < w.heap.size ∧ ∀ j (h : j < bs.length), w.cell? ⟨b, off + j * 5, none⟩ = some (.int .i64 bs[j].op) ∧
     w.cell? ⟨b, off + j * 5 + 1, none⟩ = some (.int .i64 bs[j].v.a) ∧ w.cell? ⟨b, off + j * 5 + 2, none⟩ = some (.int .i64 bs[j].v.b) ∧ w.cell? ⟨b, off + j * 5 + 3, none⟩ = some (.int .i64 bs[j].v.c) ∧
     w.cell? ⟨b, off + j * 5 + 4, none⟩ = some (.string bs[j].v.p) := by
    rcases HC.out with ⟨a, cap, hva, he⟩ | h
    ·rw [he] at hlt; simp at hlt
    ·exact h
   have ha0 : a0 = some ⟨bx, ox, none⟩ := by injection hva
   subst ha0
   obtain ⟨g0, g1, g2, g3, g4⟩ := hc k hlt
   have c0 := (hW.cell (p := ⟨bx, ox + k * 5, none⟩) hbx).trans g0
   have c1 := (hW.cell (p := ⟨bx, ox + k * 5 + 1, none⟩) hbx).trans g1
   have c2 := (hW.cell (p := ⟨bx, ox + k * 5 + 2, none⟩) hbx).trans g2
   have c3 := (hW.cell (p := ⟨bx, ox + k * 5 + 3, none⟩) hbx).trans g3
   have c4 := (hW.cell (p := ⟨bx, ox + k * 5 + 4, none⟩) hbx).trans g4
   have d0 := box_cells hb 0
   have d1 := box_cells hb 1
   have d2 := box_cells hb 2
   have d3 := box_cells hb 3
   simp at d0 d1 d2 d3
   have hpx := HP.out _ (List.getElem_mem hlt)
   have hmem := List.getElem_mem hlt
   obtain ⟨op, y, hye⟩ : ∃ op y, bs[k] = ⟨op, y⟩ := ⟨_, _, rfl⟩
   rw [hye] at c0 c1 c2 c3 c4 hpx hmem
   simp only at c0 c1 c2 c3 c4 hpx
   have HT := Lib.hid (List.take_succ_eq_append_getElem hlt)
   have HY := Lib.hid hye
   have HM := Lib.hid hmem
   obtain ⟨r, hr⟩ : ∃ r, V4.cmp x y = r := ⟨_, rfl⟩
   have HR := Lib.hid hr
   have hz1 := cell_lt d0
   clear g0 g1 g2 g3 g4 hye hc hva hmem hr
   have hr3 : r < 0 ∨ r = 0 ∨ 0 < r := by omega
   have hop : op = 1 ∨ op = 2 ∨ op = 3 ∨ op = 4 ∨ op = 5 ∨ (op ≠ 1 ∧ op ≠ 2 ∧ op ≠ 3 ∧ op ≠ 4 ∧ op ≠ 5) := by omega
   rcases hop with rfl | rfl | rfl | rfl | rfl | ⟨h1, h2, h3, h4, h5⟩
   ·rcases hr3 with hr | hr | hr
    ·have q : decide (0 ≤ r) = false := by simp; omega
     have HV : Hid (meets1 x ⟨1, y⟩ = true) := by show _ = _; simp [meets1, HR.out]; omega
     clear hr
     go_wp2_with fail
     refine (cmpQ_as x y r HR.out _ ((HE.out.below hW).alloc _) hx hpx).mono ?_
     rintro e w2 ⟨rfl, hb2⟩
     have e0 := box_cells (box_of hb2) 0
     simp at e0
     have hb3 := box_then hb (below_first (box_of hb2))
     clear hb2
     go_wp2_with fail
     go_roundw
     case rel =>
      refine ⟨k + 1, hlt, by go_num, ?_, hb3⟩
      rw [HT.out, List.all_append, HA.out, HY.out]; simp [HV.out]
     case measure => simp [intOf]; omega
    ·have q : decide (0 ≤ r) = true := by simp; omega
     have HV : Hid (meets1 x ⟨1, y⟩ = false) := by show _ = _; simp [meets1, HR.out]; omega
     clear hr
     go_wp2_with fail
     refine (cmpQ_as x y r HR.out _ ((HE.out.below hW).alloc _) hx hpx).mono ?_
     rintro e w2 ⟨rfl, hb2⟩
     have e0 := box_cells (box_of hb2) 0
     simp at e0
     have hb3 := box_then hb (below_first (box_of hb2))
     clear hb2
     go_wp2_with fail
     go_ret
     exact ⟨by rw [meets_no HM.out HV.out]; rfl, below_first hb3⟩
    ·have q : decide (0 ≤ r) = true := by simp; omega
     have HV : Hid (meets1 x ⟨1, y⟩ = false) := by show _ = _; simp [meets1, HR.out]; omega
     clear hr
     go_wp2_with fail
     refine (cmpQ_as x y r HR.out _ ((HE.out.below hW).alloc _) hx hpx).mono ?_
     rintro e w2 ⟨rfl, hb2⟩
     have e0 := box_cells (box_of hb2) 0
     simp at e0
     have hb3 := box_then hb (below_first (box_of hb2))
     clear hb2
     go_wp2_with fail
     go_ret
     exact ⟨by rw [meets_no HM.out HV.out]; rfl, below_first hb3⟩
   ·rcases hr3 with hr | hr | hr
    ·have q : decide (0 < r) = false := by simp; omega
     have HV : Hid (meets1 x ⟨2, y⟩ = true) := by show _ = _; simp [meets1, HR.out]; omega
     clear hr
     go_wp2_with fail
     refine (cmpQ_as x y r HR.out _ ((HE.out.below hW).alloc _) hx hpx).mono ?_
     rintro e w2 ⟨rfl, hb2⟩
     have e0 := box_cells (box_of hb2) 0
     simp at e0
     have hb3 := box_then hb (below_first (box_of hb2))
     clear hb2
     go_wp2_with fail
     go_roundw
     case rel =>
      refine ⟨k + 1, hlt, by go_num, ?_, hb3⟩
      rw [HT.out, List.all_append, HA.out, HY.out]; simp [HV.out]
     case measure => simp [intOf]; omega
    ·have q : decide (0 < r) = false := by simp; omega
     have HV : Hid (meets1 x ⟨2, y⟩ = true) := by show _ = _; simp [meets1, HR.out]; omega
     clear hr
     go_wp2_with fail
     refine (cmpQ_as x y r HR.out _ ((HE.out.below hW).alloc _) hx hpx).mono ?_
     rintro e w2 ⟨rfl, hb2⟩
     have e0 := box_cells (box_of hb2) 0
     simp at e0
     have hb3 := box_then hb (below_first (box_of hb2))
     clear hb2
     go_wp2_with fail
     go_roundw
     case rel =>
      refine ⟨k + 1, hlt, by go_num, ?_, hb3⟩
      rw [HT.out, List.all_append, HA.out, HY.out]; simp [HV.out]
     case measure => simp [intOf]; omega
    ·have q : decide (0 < r) = true := by simp; omega
     have HV : Hid (meets1 x ⟨2, y⟩ = false) := by show _ = _; simp [meets1, HR.out]; omega
     clear hr
     go_wp2_with fail
     refine (cmpQ_as x y r HR.out _ ((HE.out.below hW).alloc _) hx hpx).mono ?_
     rintro e w2 ⟨rfl, hb2⟩
     have e0 := box_cells (box_of hb2) 0
     simp at e0
     have hb3 := box_then hb (below_first (box_of hb2))
     clear hb2
     go_wp2_with fail
     go_ret
     exact ⟨by rw [meets_no HM.out HV.out]; rfl, below_first hb3⟩
   ·rcases hr3 with hr | hr | hr
    ·have q : (r != 0) = true := by simp; omega
     have HV : Hid (meets1 x ⟨3, y⟩ = false) := by show _ = _; simp [meets1, HR.out]; omega
     clear hr
     go_wp2_with fail
     refine (cmpQ_as x y r HR.out _ ((HE.out.below hW).alloc _) hx hpx).mono ?_
     rintro e w2 ⟨rfl, hb2⟩
     have e0 := box_cells (box_of hb2) 0
     simp at e0
     have hb3 := box_then hb (below_first (box_of hb2))
     clear hb2
     go_wp2_with fail
     go_ret
     exact ⟨by rw [meets_no HM.out HV.out]; rfl, below_first hb3⟩
    ·have q : (r != 0) = false := by simp; omega
     have HV : Hid (meets1 x ⟨3, y⟩ = true) := by show _ = _; simp [meets1, HR.out]; omega
     clear hr
     go_wp2_with fail
     refine (cmpQ_as x y r HR.out _ ((HE.out.below hW).alloc _) hx hpx).mono ?_
     rintro e w2 ⟨rfl, hb2⟩
     have e0 := box_cells (box_of hb2) 0
     simp at e0
     have hb3 := box_then hb (below_first (box_of hb2))
     clear hb2
     go_wp2_with fail
     go_roundw
     case rel =>
      refine ⟨k + 1, hlt, by go_num, ?_, hb3⟩
      rw [HT.out, List.all_append, HA.out, HY.out]; simp [HV.out]
     case measure => simp [intOf]; omega
    ·have q : (r != 0) = true := by simp; omega
     have HV : Hid (meets1 x ⟨3, y⟩ = false) := by show _ = _; simp [meets1, HR.out]; omega
     clear hr
     go_wp2_with fail
     refine (cmpQ_as x y r HR.out _ ((HE.out.below hW).alloc _) hx hpx).mono ?_
     rintro e w2 ⟨rfl, hb2⟩
     have e0 := box_cells (box_of hb2) 0
     simp at e0
     have hb3 := box_then hb (below_first (box_of hb2))
     clear hb2
     go_wp2_with fail
     go_ret
     exact ⟨by rw [meets_no HM.out HV.out]; rfl, below_first hb3⟩
   ·rcases hr3 with hr | hr | hr
    ·have q : decide (r < 0) = true := by simp; omega
     have HV : Hid (meets1 x ⟨4, y⟩ = false) := by show _ = _; simp [meets1, HR.out]; omega
     clear hr
     go_wp2_with fail
     refine (cmpQ_as x y r HR.out _ ((HE.out.below hW).alloc _) hx hpx).mono ?_
     rintro e w2 ⟨rfl, hb2⟩
     have e0 := box_cells (box_of hb2) 0
     simp at e0
     have hb3 := box_then hb (below_first (box_of hb2))
     clear hb2
     go_wp2_with fail
     go_ret
     exact ⟨by rw [meets_no HM.out HV.out]; rfl, below_first hb3⟩
    ·have q : decide (r < 0) = false := by simp; omega
     have HV : Hid (meets1 x ⟨4, y⟩ = true) := by show _ = _; simp [meets1, HR.out]; omega
     clear hr
     go_wp2_with fail
     refine (cmpQ_as x y r HR.out _ ((HE.out.below hW).alloc _) hx hpx).mono ?_
     rintro e w2 ⟨rfl, hb2⟩
     have e0 := box_cells (box_of hb2) 0
     simp at e0
     have hb3 := box_then hb (below_first (box_of hb2))
     clear hb2
     go_wp2_with fail
     go_roundw
     case rel =>
      refine ⟨k + 1, hlt, by go_num, ?_, hb3⟩
      rw [HT.out, List.all_append, HA.out, HY.out]; simp [HV.out]
     case measure => simp [intOf]; omega
    ·have q : decide (r < 0) = false := by simp; omega
     have HV : Hid (meets1 x ⟨4, y⟩ = true) := by show _ = _; simp [meets1, HR.out]; omega
     clear hr
     go_wp2_with fail
     refine (cmpQ_as x y r HR.out _ ((HE.out.below hW).alloc _) hx hpx).mono ?_
     rintro e w2 ⟨rfl, hb2⟩
     have e0 := box_cells (box_of hb2) 0
     simp at e0
     have hb3 := box_then hb (below_first (box_of hb2))
     clear hb2
     go_wp2_with fail
     go_roundw
     case rel =>
      refine ⟨k + 1, hlt, by go_num, ?_, hb3⟩
      rw [HT.out, List.all_append, HA.out, HY.out]; simp [HV.out]
     case measure => simp [intOf]; omega
   ·rcases hr3 with hr | hr | hr
    ·have q : decide (r ≤ 0) = true := by simp; omega
     have HV : Hid (meets1 x ⟨5, y⟩ = false) := by show _ = _; simp [meets1, HR.out]; omega
     clear hr
     go_wp2_with fail
     refine (cmpQ_as x y r HR.out _ ((HE.out.below hW).alloc _) hx hpx).mono ?_
     rintro e w2 ⟨rfl, hb2⟩
     have e0 := box_cells (box_of hb2) 0
     simp at e0
     have hb3 := box_then hb (below_first (box_of hb2))
     clear hb2
     go_wp2_with fail
     go_ret
     exact ⟨by rw [meets_no HM.out HV.out]; rfl, below_first hb3⟩
    ·have q : decide (r ≤ 0) = true := by simp; omega
     have HV : Hid (meets1 x ⟨5, y⟩ = false) := by show _ = _; simp [meets1, HR.out]; omega
     clear hr
     go_wp2_with fail
     refine (cmpQ_as x y r HR.out _ ((HE.out.below hW).alloc _) hx hpx).mono ?_
     rintro e w2 ⟨rfl, hb2⟩
     have e0 := box_cells (box_of hb2) 0
     simp at e0
     have hb3 := box_then hb (below_first (box_of hb2))
     clear hb2
     go_wp2_with fail
     go_ret
     exact ⟨by rw [meets_no HM.out HV.out]; rfl, below_first hb3⟩
    ·have q : decide (r ≤ 0) = false := by simp; omega
     have HV : Hid (meets1 x ⟨5, y⟩ = true) := by show _ = _; simp [meets1, HR.out]; omega
     clear hr
     go_wp2_with fail
     refine (cmpQ_as x y r HR.out _ ((HE.out.below hW).alloc _) hx hpx).mono ?_
     rintro e w2 ⟨rfl, hb2⟩
     have e0 := box_cells (box_of hb2) 0
     simp at e0
     have hb3 := box_then hb (below_first (box_of hb2))
     clear hb2
     go_wp2_with fail
     go_roundw
     case rel =>
      refine ⟨k + 1, hlt, by go_num, ?_, hb3⟩
      rw [HT.out, List.all_append, HA.out, HY.out]; simp [HV.out]
     case measure => simp [intOf]; omega
   ·rcases hr3 with hr | hr | hr
    ·have q1 : (op == 1) = false := by simpa using h1
     have q2 : (op == 2) = false := by simpa using h2
     have q3 : (op == 3) = false := by simpa using h3
     have q4 : (op == 4) = false := by simpa using h4
     have q5 : (op == 5) = false := by simpa using h5
     have HV : Hid (meets1 x ⟨op, y⟩ = false) := by show _ = _; simp [meets1, h1, h2, h3, h4, h5]
     clear hr h1 h2 h3 h4 h5
     go_wp2_with fail
     refine (cmpQ_as x y r HR.out _ ((HE.out.below hW).alloc _) hx hpx).mono ?_
     rintro e w2 ⟨rfl, hb2⟩
     have e0 := box_cells (box_of hb2) 0
     simp at e0
     have hb3 := box_then hb (below_first (box_of hb2))
     clear hb2
     go_wp2_with fail
     go_ret
     exact ⟨by rw [meets_no HM.out HV.out]; rfl, below_first hb3⟩
    ·have q1 : (op == 1) = false := by simpa using h1
     have q2 : (op == 2) = false := by simpa using h2
     have q3 : (op == 3) = false := by simpa using h3
     have q4 : (op == 4) = false := by simpa using h4
     have q5 : (op == 5) = false := by simpa using h5
     have HV : Hid (meets1 x ⟨op, y⟩ = false) := by show _ = _; simp [meets1, h1, h2, h3, h4, h5]
     clear hr h1 h2 h3 h4 h5
     go_wp2_with fail
     refine (cmpQ_as x y r HR.out _ ((HE.out.below hW).alloc _) hx hpx).mono ?_
     rintro e w2 ⟨rfl, hb2⟩
     have e0 := box_cells (box_of hb2) 0
     simp at e0
     have hb3 := box_then hb (below_first (box_of hb2))
     clear hb2
     go_wp2_with fail
     go_ret
     exact ⟨by rw [meets_no HM.out HV.out]; rfl, below_first hb3⟩
    ·have q1 : (op == 1) = false := by simpa using h1
     have q2 : (op == 2) = false := by simpa using h2
     have q3 : (op == 3) = false := by simpa using h3
     have q4 : (op == 4) = false := by simpa using h4
     have q5 : (op == 5) = false := by simpa using h5
     have HV : Hid (meets1 x ⟨op, y⟩ = false) := by show _ = _; simp [meets1, h1, h2, h3, h4, h5]
     clear hr h1 h2 h3 h4 h5
     go_wp2_with fail
     refine (cmpQ_as x y r HR.out _ ((HE.out.below hW).alloc _) hx hpx).mono ?_
     rintro e w2 ⟨rfl, hb2⟩
     have e0 := box_cells (box_of hb2) 0
     simp at e0
     have hb3 := box_then hb (below_first (box_of hb2))
     clear hb2
     go_wp2_with fail
     go_ret
     exact ⟨by rw [meets_no HM.out HV.out]; rfl, below_first hb3⟩
  ·have q2 : decide (k < bs.length) = false := by simp; omega
   obtain rfl : k = bs.length := by omega
   have HF : Hid (meetsR x bs = true) := by
    show _ = _
    have h := HA.out
    rw [List.take_of_length_le (Nat.le_refl _)] at h
    exact h
   go_wp2_with fail
   go_ret
   exact ⟨by rw [HF.out]; rfl, hW⟩
end Go.Proofs.YtbgimpeklblcjaaGreatDoor
