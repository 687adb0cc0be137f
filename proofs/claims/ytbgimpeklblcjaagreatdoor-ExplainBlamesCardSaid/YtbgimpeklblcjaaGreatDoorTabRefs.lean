/- Choices: one more, put in where it belongs, plainly. The reference of choices: Offers: a walk. The reference of choices: add: a walk. The reference of choices: Table: the walk. -/
import Derived.Test.YtbgimpeklblcjaaGreatDoorChOffers
import Derived.Test.YtbgimpeklblcjaaGreatDoorTabLast
import Derived.Deep.CutBlock
import Derived.Deep.AppendLies
import Derived.Test.YtbgimpeklblcjaaGreatDoorCmdMore
import Derived.Test.YtbgimpeklblcjaaGreatDoorTabFirst
namespace Go
open Go.RowKit
theorem there_perm {out sel : List DOff} (h : out.Perm sel) (o : DOff) : thereB out o = thereB sel o := by
 unfold thereB
 rw [Bool.eq_iff_iff, List.any_eq_true, List.any_eq_true]
 exact ⟨fun ⟨x, h1, h2⟩ => ⟨x, h.mem_iff.1 h1, h2⟩, fun ⟨x, h1, h2⟩ => ⟨x, h.mem_iff.2 h1, h2⟩⟩
/-- what the reference has so far -/
def InsOk (lock : List Pik) (nm : ByteArray) (out sel : List DOff) : Prop := out.Perm sel ∧ out.Pairwise fun x y => cmpO lock nm x y < 0
def insAt (out : List DOff) (o : DOff) (j : Nat) : List DOff := out.take j ++ [o] ++ out.drop j
theorem ins_skip {lock : List Pik} {nm : ByteArray} {needs : List (Want × Value)} {out sel : List DOff} {o : DOff} (h : InsOk lock nm out sel) (hn : thereB out o = true ∨ fitO lock nm needs o = false) : InsOk lock nm out (selStep lock nm needs sel o) := by
 unfold selStep
 rw [← there_perm h.1]
 rcases hn with e | e
 ·rw [e]; simpa using h
 ·rw [e]; simpa using h
theorem ins_step {lock : List Pik} {nm : ByteArray} {needs : List (Want × Value)} {out sel : List DOff} {o : DOff} (h : InsOk lock nm out sel) (hf : ∀ x ∈ sel, fitO lock nm needs x = true) (h1 : thereB out o = false) (h2 : fitO lock nm needs o = true)
  {j : Nat} (hj : j ≤ out.length) (hb : ∀ i (hi : i < out.length), i < j → ¬ cmpO lock nm o out[i] < 0) (ha : ∀ hi : j < out.length, cmpO lock nm o out[j] < 0) : InsOk lock nm (insAt out o j) (selStep lock nm needs sel o) := by
 have ho := good_cmpO lock nm
 have hne : ∀ x ∈ out, x.v ≠ o.v := fun x hx e => by
  have : thereB out o = true := List.any_eq_true.2 ⟨x, hx, (V4.same_eq _ _).2 e⟩
  rw [h1] at this; cases this
 have hlt : ∀ x ∈ out, ¬ cmpO lock nm o x < 0 → cmpO lock nm x o < 0 := fun x hx hn => by
  have e1 : cmpO lock nm x o = - cmpO lock nm o x := ho.1 x o
  have := cmpO_ne (lock := lock) (nm := nm) (fit_ok (hf x (h.1.mem_iff.1 hx))) (fit_ok h2) (hne x hx)
  omega
 constructor
 ·unfold selStep insAt
  rw [← there_perm h.1, if_pos ⟨h1, h2⟩]
  have e : (out.take j ++ [o] ++ out.drop j).Perm (out.take j ++ out.drop j ++ [o]) := by
   rw [List.append_assoc, List.append_assoc]
   exact List.Perm.append_left _ List.perm_append_comm
  rw [List.take_append_drop] at e
  exact e.trans (h.1.append_right _)
 ·unfold insAt
  have hp := h.2
  rw [← List.take_append_drop j out] at hp
  obtain ⟨p1, p2, p3⟩ := List.pairwise_append.1 hp
  have hleft : ∀ x ∈ out.take j, cmpO lock nm x o < 0 := fun x hx => by
   obtain ⟨i, hi, e⟩ := List.getElem_of_mem hx
   rw [List.length_take] at hi
   rw [List.getElem_take] at e
   subst e
   exact hlt _ (List.getElem_mem _) (hb i (by omega) (by omega))
  have hright : ∀ x ∈ out.drop j, cmpO lock nm o x < 0 := fun x hx => by
   obtain ⟨i, hi, e⟩ := List.getElem_of_mem hx
   rw [List.length_drop] at hi
   rw [List.getElem_drop] at e
   subst e
   have hj2 : j < out.length := by omega
   rcases Nat.eq_zero_or_pos i with e0 | e0
   ·subst e0; exact ha hj2
   ·have h3 := List.pairwise_iff_getElem.1 h.2 j (j + i) hj2 (by omega) (by omega)
    exact ho.lt_le (ha hj2) (by omega)
  refine List.pairwise_append.2 ⟨List.pairwise_append.2 ⟨p1, by simp, fun x hx y hy => ?_⟩, p2, fun x hx y hy => ?_⟩
  ·simp at hy; subst hy; exact hleft x hx
  ·rcases List.mem_append.1 hx with hx | hx
   ·exact p3 x hx y hy
   ·simp at hx; subst hx; exact hright y hy
theorem insAt_len (out : List DOff) (o : DOff) {j : Nat} (h : j ≤ out.length) : (insAt out o j).length = out.length + 1 := by
 unfold insAt
 simp; omega
theorem insAt_cells (out : List DOff) (o : DOff) (j : Nat) : (insAt out o j).flatMap DOff.cells = (out.take j).flatMap DOff.cells ++ o.cells ++ (out.drop j).flatMap DOff.cells := by
 unfold insAt; simp
end Go

namespace Go.Proofs.YtbgimpeklblcjaaGreatDoor
open Go.RowKit
def RoRel (lock : List Pik) (nm : ByteArray) (needs : List (Want × Value)) (os : List DOff) (W1 : World) (v i : Value) (wr : World) : Prop :=
 ∃ (k : Nat) (out : List DOff), k ≤ os.length ∧ i = .int .i64 (k : Int) ∧ InsOk lock nm out (selL lock nm needs (os.take k)) ∧ out.length ≤ k ∧ wr.ownsRow W1.heap.size 55 6 v out.length (out.flatMap DOff.cells) ∧ Below W1.heap.size W1 wr
def RtRel (out : List DOff) (o : DOff) (w2 : World) (x i : Value) (wr : World) : Prop :=
 ∃ (k : Nat) (b : Bool), k ≤ out.length ∧ i = .int .i64 (k : Int) ∧ x = .bool b ∧ b = thereB (out.take k) o ∧ Below w2.heap.size w2 wr
def RaRel (lock : List Pik) (nm : ByteArray) (out : List DOff) (o : DOff) (w2 : World) (i : Value) (wr : World) : Prop :=
 ∃ k : Nat, k ≤ out.length ∧ i = .int .i64 (k : Int) ∧ (∀ j (hj : j < out.length), j < k → 0 ≤ cmpO lock nm o out[j]) ∧ Below w2.heap.size w2 wr
/-- what the region that puts one in looks at -/
def OfS (b : Nat) (o : DOff) (w0 W : World) : Prop := OffAt W b o ∧ Below w0.heap.size w0 W
set_option maxRecDepth 100000 in
set_option maxHeartbeats 8000000 in
theorem roffers_any (nm : ByteArray) (ov : Value) (os : List DOff) (lk : Value) (lock : List Pik) (nv : Value) (needs : List (Want × Value)) (w : World)
  (ho : Offs w ov os) (hl : Piks w lk lock) (hn : Wants w nv needs) (hos : os.length ≤ 1000000) (hop : ∀ o ∈ os, o.v.p.size ≤ 300) (hnd : ∀ x ∈ needs, x.1.bs.length ≤ 1000 ∧ ∀ b ∈ x.1.bs, b.v.p.size ≤ 300) :
  Calls Tryz.prog 20 #[.agg #[.string nm, ov], lk, nv] w (OffersPost lock nm needs os w) := by
 obtain ⟨a0, cap0, rfl⟩ := ho.1.len.2
 obtain ⟨a1, cap1, rfl⟩ := hl.len
 obtain ⟨hmx, a2, cap2, rfl⟩ := hn.len
 have hmx1 : os.length ≤ 9223372036854775807 := by omega
 have hx1 := Below.refl (w.heap.size + 1) (w.alloc (.cells #[.string nm, .slice a0 os.length cap0] 52))
 have hW := below_first hx1
 have c0 := box_cells hx1 0
 have c1 := box_cells hx1 1
 simp only [List.getElem?_toArray, List.getElem?_cons_zero, List.getElem?_cons_succ] at c0 c1
 have HO := Lib.hid (ho.below hW (Nat.le_refl _))
 have HN := Lib.hid (hn.below hW (Nat.le_refl _))
 have HL := Lib.hid (hl.below hW (Nat.le_refl _))
 have HP0 := Lib.hid c0
 have HP1 := Lib.hid c1
 have HOp := Lib.hid hop
 have HNd := Lib.hid hnd
 have HI := Lib.hid info_offer
 have HW := Lib.hid hW
 clear ho hl hn hx1 hop hnd hW hmx c0 c1
 go_enter Tryz.func20, Tryz.ntmps20
 go_wp2_with fail
 generalize (w.alloc (.cells #[.string nm, .slice a0 os.length cap0] 52)) = W1 at *
 go_loopw [7, 8] (fun v i wr => RoRel lock nm needs os W1 v i wr) (fun _ i _ => os.length - (intOf i).toNat)
 case atStart => exact ⟨0, [], Nat.zero_le _, rfl, ⟨List.Perm.nil, List.Pairwise.nil⟩, Nat.zero_le _, World.ownsRow_nil _ _ _ _, Below.refl _ _⟩
 case round =>
  obtain ⟨k, out, hk, rfl, hins, hol, hown, hb⟩ := hrel
  obtain ⟨va, vcap, rfl⟩ := owns_len hown
  have HIn := Lib.hid hins
  have HOw := Lib.hid hown
  have e0 := cell_on HP0.out hb
  have e1 := cell_on HP1.out hb
  have hz := cell_lt e0
  clear hins hown
  by_cases hlt : k < os.length
  ·have i0 : (0 : Int) ≤ (k : Int) := by omega
   have i1 : (k : Int) < (os.length : Int) := by omega
   obtain ⟨bx, ox, rfl, hbx, c0, c1, c2, c3, c4, c5⟩ := HO.out.1.at' hb hlt
   have HT := Lib.hid (List.take_succ_eq_append_getElem hlt)
   have hmem := List.getElem_mem hlt
   obtain ⟨o, hxe⟩ : ∃ o, os[k] = o := ⟨_, rfl⟩
   rw [hxe] at c0 c1 c2 c3 c4 c5 HT hmem
   have hop := HOp.out o hmem
   have r5 : Sem.run Tryz.prog (store ⟨wr.heap.size, 5, none⟩ o.nv) (wr.alloc (.cells #[.int .i64 o.v.a, .int .i64 o.v.b, .int .i64 o.v.c, .string o.v.p, .bool o.y, .slice none 0 0] 55)) = .ok () (wr.alloc (.cells #[.int .i64 o.v.a, .int .i64 o.v.b, .int .i64 o.v.c, .string o.v.p, .bool o.y, o.nv] 55)) := by
    unfold DOff.nv; go_simp
   have HSt : Hid (selL lock nm needs (os.take (k + 1)) = selStep lock nm needs (selL lock nm needs (os.take k)) o) := by
    show _ = _
    rw [HT.out]; unfold selL; rw [List.foldl_append]; rfl
   clear hxe hmem
   have hw1 : Below (wr.heap.size + 1) (wr.alloc (.cells #[.int .i64 o.v.a, .int .i64 o.v.b, .int .i64 o.v.c, .string o.v.p, .bool o.y, o.nv] 55)) (wr.alloc (.cells #[.int .i64 o.v.a, .int .i64 o.v.b, .int .i64 o.v.c, .string o.v.p, .bool o.y, o.nv] 55)) := Below.refl _ _
   have HO1 := Lib.hid (offAt_new hw1)
   have hb1 := below_then hb (below_first hw1)
   have HOw1 := Lib.hid (owns_below HOw.out (below_first hw1))
   have hbz : wr.heap.size < (wr.alloc (.cells #[.int .i64 o.v.a, .int .i64 o.v.b, .int .i64 o.v.c, .string o.v.p, .bool o.y, o.nv] 55)).heap.size := by simp
   clear hw1
   go_wp2_with fail
   generalize (wr.alloc (.cells #[.int .i64 o.v.a, .int .i64 o.v.b, .int .i64 o.v.c, .string o.v.p, .bool o.y, o.nv] 55)) = w2 at *
   obtain ⟨b9, hb9⟩ : ∃ b, wr.heap.size = b := ⟨_, rfl⟩
   rw [hb9] at HO1 hbz ⊢
   clear c0 c1 c2 c3 c4 c5 r5 e0 e1 hz hb HOw
   go_loopw [10, 11] (fun x i wy => RtRel out o w2 x i wy) (fun _ i _ => out.length - (intOf i).toNat)
   case atStart => exact ⟨0, false, Nat.zero_le _, rfl, rfl, rfl, Below.refl _ _⟩
   case round =>
    obtain ⟨m, th, hm, rfl, rfl, hth, hb2⟩ := hrel
    have HTh := Lib.hid hth
    clear hth
    by_cases hlt2 : m < out.length
    ·have j0 : (0 : Int) ≤ (m : Int) := by omega
     have j1 : (m : Int) < (out.length : Int) := by omega
     have HT2 := Lib.hid (List.take_succ_eq_append_getElem hlt2)
     cases th
     ·obtain ⟨bg, og, rfl, hbg, c0, c1, c2, c3, _⟩ := (ORow.of_owns HOw1.out).at' hb2 hlt2
      obtain ⟨x, hxe⟩ : ∃ x, out[m] = x := ⟨_, rfl⟩
      rw [hxe] at c0 c1 c2 c3 HT2
      clear hxe
      obtain ⟨r, hr⟩ : ∃ r, V4.same x.v o.v = r := ⟨_, rfl⟩
      have r1 := fun W => ver_eq x.v.a x.v.b x.v.c x.v.p o.v.a o.v.b o.v.c o.v.p r hr.symm W
      have HR := Lib.hid hr
      obtain ⟨⟨d0, d1, d2, d3⟩, _, _⟩ := HO1.out.on hb2
      have hz := cell_lt d0
      clear hr
      go_wp2_with fail
      go_quiet (fail)
      go_wp2_with fail
      go_roundw
      case rel =>
       refine ⟨m + 1, r, hlt2, by go_num, rfl, ?_, below_drewN hb2 _⟩
       rw [HT2.out]; unfold thereB at HTh ⊢; rw [List.any_append, ← HTh.out]; simp [HR.out]
      case measure => simp [intOf]; omega
     ·go_wp2_with fail
      go_quiet (fail)
      go_wp2_with fail
      go_roundw
      case rel =>
       refine ⟨m + 1, true, hlt2, by go_num, rfl, ?_, below_drewN hb2 _⟩
       rw [HT2.out]; unfold thereB at HTh ⊢; rw [List.any_append, ← HTh.out]; rfl
      case measure => simp [intOf]; omega
    ·have q6 : decide (m < out.length) = false := decide_eq_false hlt2
     have HTo : Hid (thereB out o = th) := by
      show _ = _
      have := HTh.out
      rw [List.take_of_length_le (by omega)] at this
      exact this.symm
     have hb3 := below_then hb1 hb2
     have HOw3 := Lib.hid (owns_below HOw1.out hb2)
     have HO3 := Lib.hid (HO1.out.on hb2)
     have f0 := cell_on HP0.out hb3
     have hz := cell_lt f0
     clear hlt2
     cases th
     case true =>
      have HS2 := Lib.hid (ins_skip (needs := needs) HIn.out (.inl HTo.out))
      go_wp2_with fail
      go_roundw
      case rel => exact ⟨k + 1, out, hlt, by go_num, by rw [HSt.out]; exact HS2.out, by omega, HOw3.out, hb3⟩
      case measure => simp [intOf]; omega
     case false =>
      obtain ⟨ft, hft⟩ : ∃ ft, fitO lock nm needs o = ft := ⟨_, rfl⟩
      have HC := Lib.hid (rchoice_as nm o (.slice a1 lock.length cap1) lock (.slice a2 needs.length cap2) needs ft hft wr (HL.out.below hb3 (Nat.le_refl _)) (HN.out.below hb3 (Nat.le_refl _)) hop HNd.out)
      have HFt := Lib.hid hft
      clear hft
      obtain ⟨⟨v0, v1, v2, v3⟩, v4, v5⟩ := HO3.out
      have hz9 := cell_lt v0
      cases ft
      ·have HS2 := Lib.hid (ins_skip (needs := needs) HIn.out (.inr HFt.out))
       go_wp2_with fail
       refine HC.out.mono ?_
       rintro e w4 ⟨rfl, hb4⟩
       have hb5 := below_then hb3 hb4
       have hown5 := owns_below HOw3.out hb4
       clear v0 v1 v2 v3 v4 v5 f0 hb4
       go_wp2_with fail
       go_roundw
       case rel => exact ⟨k + 1, out, hlt, by go_num, by rw [HSt.out]; exact HS2.out, by omega, hown5, hb5⟩
       case measure => simp [intOf]; omega
      ·go_wp2_with fail
       refine HC.out.mono ?_
       rintro e w4 ⟨rfl, hb4⟩
       have hb5 := below_then hb3 hb4
       have HOw5 := Lib.hid (owns_below HOw3.out hb4)
       have HO5 := Lib.hid (HO3.out.on hb4)
       have HFit := Lib.hid (fun x (hx : x ∈ selL lock nm needs (os.take k)) => (sel_ok (lock := lock) (nm := nm) (needs := needs) (os := os.take k)).1 x hx)
       clear v0 v1 v2 v3 v4 v5 f0 hb4
       go_upto_block 4 with fail
       go_cut [12] from 52 to 69 (fun x wy => ∃ j : Nat, j ≤ out.length ∧ x = .int .i64 (j : Int) ∧ InsOk lock nm (insAt out o j) (selL lock nm needs (os.take (k + 1))) ∧ Below w4.heap.size w4 wy)
       case first =>
        go_wp2_with fail
        go_loopw [12] (fun i wy => RaRel lock nm out o w4 i wy) (fun i _ => out.length - (intOf i).toNat)
        case atStart => exact ⟨0, Nat.zero_le _, rfl, fun j _ h => absurd h (Nat.not_lt_zero _), Below.refl _ _⟩
        case round =>
         obtain ⟨j, hj, rfl, hbef, hb6⟩ := hrel
         have HBe := Lib.hid hbef
         clear hbef
         have hb7 := below_then hb5 hb6
         by_cases hlt3 : j < out.length
         ·have j0 : (0 : Int) ≤ (j : Int) := by omega
          have j1 : (j : Int) < (out.length : Int) := by omega
          obtain ⟨bg, og, rfl, hbg, c0, c1, c2, c3, c4, c5⟩ := (ORow.of_owns HOw5.out).at' hb6 hlt3
          have hmem := List.getElem_mem hlt3
          obtain ⟨x, hxe⟩ : ∃ x, out[j] = x := ⟨_, rfl⟩
          rw [hxe] at c0 c1 c2 c3 c4 c5 hmem
          have hxs : x.v.p.size ≤ 300 := HOp.out x (List.mem_of_mem_take (sel_mem (HIn.out.1.mem_iff.1 hmem)))
          obtain ⟨⟨v0, v1, v2, v3⟩, v4, v5⟩ := HO5.out.on hb6
          have f0 := cell_on HP0.out hb7
          have hz0 := cell_lt f0
          have hz1 := cell_lt v0
          obtain ⟨q, hq⟩ : ∃ q, decide (cmpO lock nm o x < 0) = q := ⟨_, rfl⟩
          have HA := Lib.hid (rahead_as nm o x (.slice a1 lock.length cap1) lock q hq wr.drew (HL.out.below hb7.drew (Nat.le_refl _)) hop hxs)
          have HX := Lib.hid hxe
          have HQ := Lib.hid hq
          clear hxe hmem hq
          go_wp2_with fail
          refine region_still_tail 13 (by kernel_rfl) (by kernel_rfl) ?_
          simp only [List.take_succ_cons, List.take_zero, List.drop_succ_cons, List.drop_zero]
          repeat still_step
          refine wpStill_nil ?_
          go_wp2_with fail
          refine HA.out.mono ?_
          rintro e w5 ⟨rfl, hb8⟩
          have hb9 := below_then hb6.drew hb8
          clear c0 c1 c2 c3 c4 c5 v0 v1 v2 v3 v4 v5 f0 hb8
          cases q
          ·go_wp2_with fail
           go_roundw
           case rel =>
            refine ⟨j + 1, hlt3, by go_num, fun i hi hij => ?_, hb9⟩
            by_cases h : i < j
            ·exact HBe.out i hi h
            ·have : i = j := by omega
             subst this
             rw [HX.out]; have := of_decide_eq_false HQ.out; omega
           case measure => simp [intOf]; omega
          ·go_wp2_with fail
           go_meet
           case rel =>
            refine ⟨j, Nat.le_of_lt hlt3, rfl, ?_, hb9⟩
            rw [HSt.out]
            exact ins_step HIn.out HFit.out HTo.out HFt.out (Nat.le_of_lt hlt3) (fun i hi h => Int.not_lt.2 (HBe.out i hi h)) (fun hi => by rw [HX.out]; exact of_decide_eq_true HQ.out)
         ·have q6 : decide (j < out.length) = false := decide_eq_false hlt3
          go_wp2_with fail
          go_quiet (fail)
          go_wp2_with fail
          go_meet
          case rel =>
           refine ⟨j, hj, rfl, ?_, below_drewN hb6 _⟩
           rw [HSt.out]
           exact ins_step HIn.out HFit.out HTo.out HFt.out hj (fun i hi h => Int.not_lt.2 (HBe.out i hi h)) (fun hi => absurd hi hlt3)
       case rest =>
        obtain ⟨j, hj, rfl, hins2, hb6⟩ := hcut
        have HIn2 := Lib.hid hins2
        have hb7 := below_then hb5 hb6
        have HOw6 := Lib.hid (owns_below HOw5.out hb6)
        have hst : OfS b9 o wc.drew wc.drew := ⟨HO5.out.on hb6.drew, Below.refl _ _⟩
        clear hins2
        have hwc := HOw6.out
        have HI0 := HI.out
        obtain ⟨i0', hi, hz0, hz1, hz2⟩ : ∃ i, Tryz.prog.info? 55 = some i ∧ i.zero = some (.agg #[.int .i64 0, .int .i64 0, .int .i64 0, .string ⟨#[]⟩, .bool false, .slice none 0 0]) ∧ i.size = 6 ∧ i.bytes = 72 := by
         have := HI.out
         rcases h : Tryz.prog.info? 55 with _ | i
         ·rw [h] at this; cases this
         ·rw [h] at this
          simp only [Option.map_some, Option.some.injEq, Prod.mk.injEq] at this
          exact ⟨i, rfl, this.1, this.2.1, this.2.2⟩
        clear HI0 hwc
        have HC0 : Hid (∀ u ∈ o.cells, u.oneCell' = true) := dsix_one o
        have hBw := hb7.drew
        rcases Joins.ownsRow_forms HOw6.out with ⟨hv, h0⟩ | ⟨g, cap, hv⟩
        ·injection hv with q1 _ q3
         subst q1 q3
         have ho0 : out = [] := List.eq_nil_of_length_eq_zero h0
         subst ho0
         have hj0 : j = 0 := by simpa using hj
         subst hj0
         go_wp2_with fail
         refine wp_region_held_drew (S := (fun W => OfS b9 o wc.drew W)) (by kernel_rfl) (hst) (fun hHeld => ?_)
         refine wpAnyH_take (i := 1) (v := ?_) rfl (by kernel_rfl) (by kernel_rfl) (by kernel_rfl) (fun _ _ _ h => h) (Or.inl ⟨by kernel_rfl, ?_⟩) hHeld ?_
         rotate_left
         ·(rintro W ⟨⟨⟨e0, e1, e2, e3⟩, e4, e5⟩, _⟩; go_simp; (try with_reducible rfl))
         (try simp only [Act.put, putL])
         refine wpAnyH_take (i := 2) (v := ?_) rfl (by kernel_rfl) (by kernel_rfl) (by kernel_rfl) (fun _ _ _ h => h) (Or.inl ⟨by kernel_rfl, ?_⟩) hHeld ?_
         rotate_left
         ·(rintro W ⟨⟨⟨e0, e1, e2, e3⟩, e4, e5⟩, _⟩; go_simp; (try with_reducible rfl))
         (try simp only [Act.put, putL])
         refine wpAnyH_take (i := 3) (v := ?_) rfl (by kernel_rfl) (by kernel_rfl) (by kernel_rfl) (fun _ _ _ h => h) (Or.inl ⟨by kernel_rfl, ?_⟩) hHeld ?_
         rotate_left
         ·(rintro W ⟨⟨⟨e0, e1, e2, e3⟩, e4, e5⟩, _⟩; go_simp; (try with_reducible rfl))
         (try simp only [Act.put, putL])
         refine wpAnyH_take (i := 5) (v := ?_) rfl (by kernel_rfl) (by kernel_rfl) (by kernel_rfl) (fun _ _ _ h => h) (Or.inl ⟨by kernel_rfl, ?_⟩) hHeld ?_
         rotate_left
         ·(rintro W ⟨⟨⟨e0, e1, e2, e3⟩, e4, e5⟩, _⟩; go_simp; (try with_reducible rfl))
         (try simp only [Act.put, putL])
         refine wpAnyH_take (i := 8) (v := ?_) rfl (by kernel_rfl) (by kernel_rfl) (by kernel_rfl) (fun _ _ _ h => h) (Or.inl ⟨by kernel_rfl, ?_⟩) hHeld ?_
         rotate_left
         ·(rintro W ⟨⟨⟨e0, e1, e2, e3⟩, e4, e5⟩, _⟩; go_simp; (try with_reducible rfl))
         (try simp only [Act.put, putL])
         refine wpAnyH_take (i := 9) (v := ?_) rfl (by kernel_rfl) (by kernel_rfl) (by kernel_rfl) (fun _ _ _ h => h) (Or.inl ⟨by kernel_rfl, ?_⟩) hHeld ?_
         rotate_left
         ·(rintro W ⟨⟨⟨e0, e1, e2, e3⟩, e4, e5⟩, _⟩; go_simp; (try with_reducible rfl))
         (try simp only [Act.put, putL])
         refine wpAnyH_take (i := 10) (v := ?_) rfl (by kernel_rfl) (by kernel_rfl) (by kernel_rfl) (fun _ _ _ h => h) (Or.inl ⟨by kernel_rfl, ?_⟩) hHeld ?_
         rotate_left
         ·(rintro W ⟨⟨⟨e0, e1, e2, e3⟩, e4, e5⟩, _⟩; go_simp; (try with_reducible rfl))
         (try simp only [Act.put, putL])
         generalize wc.drew = X0 at *
         have hOf := hst.1
         have hB0 := Below.refl X0.heap.size X0
         have HL1 : Hid (([] : List Value).length = 0 * 6) := rfl
         have HL2 : Hid (([] : List Value).length = 0 * 6) := rfl
         have HM1 : Hid (∀ W, Below X0.heap.size X0 W → (0 = 0 ∨ ∃ ad, (none : Option Addr) = some ad ∧ ∀ (i : Nat) (u : Value), ([] : List Value)[i]? = some u → W.cell? (ad.add i) = some u)) := fun _ _ => .inl rfl
         have HM2 := HM1
         have HC1 : Hid (∀ u ∈ ([] : List Value), u.oneCell' = true) := fun u h => by cases h
         have HC2 := HC1
         have HFin : Hid (∀ (W : World) (v : Value), W.ownsRow X0.heap.size 55 6 v (((0 + 0) + 1) + 0) ((([] ++ []) ++ o.cells) ++ []) → W.ownsRow W1.heap.size 55 6 v (insAt [] o 0).length ((insAt [] o 0).flatMap DOff.cells)) := fun W v h => by
          rw [insAt_len [] o (j := 0) (Nat.zero_le _), insAt_cells]
          exact own_mono h hBw.size
         clear hHeld
         refine wpAnyH_ready (rs := [0, 6]) (by kernel_rfl) (by simp) ?_
         refine AllReadyH.cons rfl (fun K hK => ?_) (AllReadyH.cons rfl (fun K hK => ?_) (AllReadyH.nil))
         ·go_simp
          obtain ⟨b0, hb0⟩ : ∃ b, X0.heap.size = b := ⟨_, rfl⟩
          have ow0 : (X0.alloc (.cells #[] 55)).ownsRow X0.heap.size 55 6 (.slice (some ⟨b0, 0, none⟩) 0 0) 0 [] := by
           rw [← hb0]; exact World.ownsRow_made (base := X0.heap.size) (size := 6) (e := 55) X0 #[] 0 hB0.size (by decide) rfl
          have hB1 := hB0.alloc hB0.size (.cells #[] 55)
          refine hK.out _ _ ⟨hOf.on hB1, hB1⟩ (fun hHeld => ?_)
          clear hK K
          (try simp only [Act.put, putL])
          rw [hb0]
          generalize X0.alloc (.cells #[] 55) = X1 at *
          refine wpAnyH_ready (rs := [4, 6]) (by kernel_rfl) (by simp) ?_
          refine AllReadyH.cons rfl (fun K hK => ?_) (AllReadyH.cons rfl (fun K hK => ?_) (AllReadyH.nil))
          ·refine step_app (by rfl) (.tmp 70) (.tmp 73) 50 (by rfl) X0.heap.size 55 i0' (.agg #[.int .i64 0, .int .i64 0, .int .i64 0, .string ⟨#[]⟩, .bool false, .slice none 0 0]) 6 72 Tryz.underlying50 hi hz0 hz1 hz2 rfl (by decide) (.slice (some ⟨b0, 0, none⟩) 0 0) 0 [] (by simp [Act.eval]) ow0 none 0 0 [] (by simp [Act.eval]) HL1.out (HM1.out _ hB1) HC1.out (by unfold maxLen; omega) (by omega) hB1.size ?_
           intro v2 X2 ow2 hg2 hk2
           have hB2 := below_grown hB1 ow0 hg2 hB1.size
           refine hK.out _ _ ⟨hOf.on hB2, hB2⟩ (fun hHeld => ?_)
           clear hK K
           (try simp only [Act.put, putL])
           refine wpAnyH_ready (rs := [6]) (by kernel_rfl) (by simp) ?_
           refine AllReadyH.cons rfl (fun K hK => ?_) (AllReadyH.nil)
           go_simp
           have hN3 : (X2.alloc (.cells #[.int .i64 o.v.a, .int .i64 o.v.b, .int .i64 o.v.c, .string o.v.p, .bool o.y, o.nv] 55)).heap[X2.heap.size]? = some (.cells #[.int .i64 o.v.a, .int .i64 o.v.b, .int .i64 o.v.c, .string o.v.p, .bool o.y, o.nv] 55) := Below_heap_new X2 _
           have hB3 := hB2.alloc hB2.size (.cells #[.int .i64 o.v.a, .int .i64 o.v.b, .int .i64 o.v.c, .string o.v.p, .bool o.y, o.nv] 55)
           have ow3 := ow2.alloc (.cells #[.int .i64 o.v.a, .int .i64 o.v.b, .int .i64 o.v.c, .string o.v.p, .bool o.y, o.nv] 55)
           have hD3 : (v2 : Value).ownBlock ≠ some X2.heap.size := fun e => Nat.lt_irrefl _ (own_lt ow2 e)
           refine hK.out _ _ ⟨hOf.on hB3, hB3⟩ (fun hHeld => ?_)
           clear hK K
           (try simp only [Act.put, putL])
           obtain ⟨bo, hbo⟩ : ∃ b, X2.heap.size = b := ⟨_, rfl⟩
           rw [hbo] at hN3 hD3 ⊢
           generalize X2.alloc (.cells #[.int .i64 o.v.a, .int .i64 o.v.b, .int .i64 o.v.c, .string o.v.p, .bool o.y, o.nv] 55) = X3 at *
           refine wpAnyH_ready (rs := [7]) (by kernel_rfl) (by simp) ?_
           refine AllReadyH.cons rfl (fun K hK => ?_) (AllReadyH.nil)
           refine step_app (by rfl) (.tmp 74) (.tmp 76) 50 (by rfl) X0.heap.size 55 i0' (.agg #[.int .i64 0, .int .i64 0, .int .i64 0, .string ⟨#[]⟩, .bool false, .slice none 0 0]) 6 72 Tryz.underlying50 hi hz0 hz1 hz2 rfl (by decide) v2 (0 + 0) ([] ++ []) (by simp [Act.eval]) ow3 (some ⟨bo, 0, none⟩) 1 1 o.cells (by simp [Act.eval]) rfl (.inr ⟨_, rfl, World.news_of_block hN3⟩) HC0.out (by unfold maxLen; omega) (by omega) hB3.size ?_
           intro v4 X4 ow4 hg4 hk4
           have hB4 := below_grown hB3 ow3 hg4 hB3.size
           refine hK.out _ _ ⟨hOf.on hB4, hB4⟩ (fun hHeld => ?_)
           clear hK K
           (try simp only [Act.put, putL])
           refine wpAnyH_ready (rs := [11]) (by kernel_rfl) (by simp) ?_
           refine AllReadyH.cons rfl (fun K hK => ?_) (AllReadyH.nil)
           refine step_app (by rfl) (.tmp 77) (.tmp 80) 50 (by rfl) X0.heap.size 55 i0' (.agg #[.int .i64 0, .int .i64 0, .int .i64 0, .string ⟨#[]⟩, .bool false, .slice none 0 0]) 6 72 Tryz.underlying50 hi hz0 hz1 hz2 rfl (by decide) v4 ((0 + 0) + 1) (([] ++ []) ++ o.cells) (by simp [Act.eval]) ow4 none 0 0 [] (by simp [Act.eval]) HL2.out (HM2.out _ hB4) HC2.out (by unfold maxLen; omega) (by omega) hB4.size ?_
           intro v5 X5 ow5 hg5 hk5
           have hB5 := below_grown hB4 ow4 hg5 hB4.size
           refine hK.out _ _ ⟨hOf.on hB5, hB5⟩ (fun hHeld => ?_)
           clear hK K
           (try simp only [Act.put, putL])
           refine wpAnyH_take (i := 12) (v := ?_) rfl (by kernel_rfl) (by kernel_rfl) (by kernel_rfl) (fun _ _ _ h => h) (Or.inl ⟨by kernel_rfl, ?_⟩) hHeld ?_
           rotate_left
           ·(intro W hSw; (try dsimp only at hSw); go_simp; (try with_reducible rfl))
           (try simp only [Act.put, putL])
           refine wpAnyH_done (by kernel_rfl) ?_ _
           go_wp2
           go_roundw
           case rel => exact ⟨k + 1, insAt [] o 0, hlt, by go_num, HIn2.out, by rw [insAt_len _ _ (by first | exact hj | exact Nat.zero_le _)]; omega, HFin.out _ _ ow5, hBw.trans (hB5.mono hBw.size)⟩
           case measure => simp [intOf]; omega
          ·go_simp
           have hN2 : (X1.alloc (.cells #[.int .i64 o.v.a, .int .i64 o.v.b, .int .i64 o.v.c, .string o.v.p, .bool o.y, o.nv] 55)).heap[X1.heap.size]? = some (.cells #[.int .i64 o.v.a, .int .i64 o.v.b, .int .i64 o.v.c, .string o.v.p, .bool o.y, o.nv] 55) := Below_heap_new X1 _
           have hB2 := hB1.alloc hB1.size (.cells #[.int .i64 o.v.a, .int .i64 o.v.b, .int .i64 o.v.c, .string o.v.p, .bool o.y, o.nv] 55)
           have ow2 := ow0.alloc (.cells #[.int .i64 o.v.a, .int .i64 o.v.b, .int .i64 o.v.c, .string o.v.p, .bool o.y, o.nv] 55)
           have hD2 : ((.slice (some ⟨b0, 0, none⟩) 0 0) : Value).ownBlock ≠ some X1.heap.size := fun e => Nat.lt_irrefl _ (own_lt ow0 e)
           refine hK.out _ _ ⟨hOf.on hB2, hB2⟩ (fun hHeld => ?_)
           clear hK K
           (try simp only [Act.put, putL])
           obtain ⟨bo, hbo⟩ : ∃ b, X1.heap.size = b := ⟨_, rfl⟩
           rw [hbo] at hN2 hD2 ⊢
           generalize X1.alloc (.cells #[.int .i64 o.v.a, .int .i64 o.v.b, .int .i64 o.v.c, .string o.v.p, .bool o.y, o.nv] 55) = X2 at *
           refine wpAnyH_ready (rs := [4]) (by kernel_rfl) (by simp) ?_
           refine AllReadyH.cons rfl (fun K hK => ?_) (AllReadyH.nil)
           refine step_app (by rfl) (.tmp 70) (.tmp 73) 50 (by rfl) X0.heap.size 55 i0' (.agg #[.int .i64 0, .int .i64 0, .int .i64 0, .string ⟨#[]⟩, .bool false, .slice none 0 0]) 6 72 Tryz.underlying50 hi hz0 hz1 hz2 rfl (by decide) (.slice (some ⟨b0, 0, none⟩) 0 0) 0 [] (by simp [Act.eval]) ow2 none 0 0 [] (by simp [Act.eval]) HL1.out (HM1.out _ hB2) HC1.out (by unfold maxLen; omega) (by omega) hB2.size ?_
           intro v3 X3 ow3 hg3 hk3
           have hB3 := below_grown hB2 ow2 hg3 hB2.size
           have hN3 := new_kept hN2 hD2 hg3
           have hD3 : v3.ownBlock ≠ some bo := by
            have h1 := (Array.getElem?_eq_some_iff.1 hN2).1
            rcases hk3 with e | e
            ·rw [e]; exact hD2
            ·rw [e]; intro e; have e2 : X2.heap.size = bo := by injection e
             omega
           refine hK.out _ _ ⟨hOf.on hB3, hB3⟩ (fun hHeld => ?_)
           clear hK K
           (try simp only [Act.put, putL])
           refine wpAnyH_ready (rs := [7]) (by kernel_rfl) (by simp) ?_
           refine AllReadyH.cons rfl (fun K hK => ?_) (AllReadyH.nil)
           refine step_app (by rfl) (.tmp 74) (.tmp 76) 50 (by rfl) X0.heap.size 55 i0' (.agg #[.int .i64 0, .int .i64 0, .int .i64 0, .string ⟨#[]⟩, .bool false, .slice none 0 0]) 6 72 Tryz.underlying50 hi hz0 hz1 hz2 rfl (by decide) v3 (0 + 0) ([] ++ []) (by simp [Act.eval]) ow3 (some ⟨bo, 0, none⟩) 1 1 o.cells (by simp [Act.eval]) rfl (.inr ⟨_, rfl, World.news_of_block hN3⟩) HC0.out (by unfold maxLen; omega) (by omega) hB3.size ?_
           intro v4 X4 ow4 hg4 hk4
           have hB4 := below_grown hB3 ow3 hg4 hB3.size
           refine hK.out _ _ ⟨hOf.on hB4, hB4⟩ (fun hHeld => ?_)
           clear hK K
           (try simp only [Act.put, putL])
           refine wpAnyH_ready (rs := [11]) (by kernel_rfl) (by simp) ?_
           refine AllReadyH.cons rfl (fun K hK => ?_) (AllReadyH.nil)
           refine step_app (by rfl) (.tmp 77) (.tmp 80) 50 (by rfl) X0.heap.size 55 i0' (.agg #[.int .i64 0, .int .i64 0, .int .i64 0, .string ⟨#[]⟩, .bool false, .slice none 0 0]) 6 72 Tryz.underlying50 hi hz0 hz1 hz2 rfl (by decide) v4 ((0 + 0) + 1) (([] ++ []) ++ o.cells) (by simp [Act.eval]) ow4 none 0 0 [] (by simp [Act.eval]) HL2.out (HM2.out _ hB4) HC2.out (by unfold maxLen; omega) (by omega) hB4.size ?_
           intro v5 X5 ow5 hg5 hk5
           have hB5 := below_grown hB4 ow4 hg5 hB4.size
           refine hK.out _ _ ⟨hOf.on hB5, hB5⟩ (fun hHeld => ?_)
           clear hK K
           (try simp only [Act.put, putL])
           refine wpAnyH_take (i := 12) (v := ?_) rfl (by kernel_rfl) (by kernel_rfl) (by kernel_rfl) (fun _ _ _ h => h) (Or.inl ⟨by kernel_rfl, ?_⟩) hHeld ?_
           rotate_left
           ·(intro W hSw; (try dsimp only at hSw); go_simp; (try with_reducible rfl))
           (try simp only [Act.put, putL])
           refine wpAnyH_done (by kernel_rfl) ?_ _
           go_wp2
           go_roundw
           case rel => exact ⟨k + 1, insAt [] o 0, hlt, by go_num, HIn2.out, by rw [insAt_len _ _ (by first | exact hj | exact Nat.zero_le _)]; omega, HFin.out _ _ ow5, hBw.trans (hB5.mono hBw.size)⟩
           case measure => simp [intOf]; omega
         ·go_simp
          have hN1 : (X0.alloc (.cells #[.int .i64 o.v.a, .int .i64 o.v.b, .int .i64 o.v.c, .string o.v.p, .bool o.y, o.nv] 55)).heap[X0.heap.size]? = some (.cells #[.int .i64 o.v.a, .int .i64 o.v.b, .int .i64 o.v.c, .string o.v.p, .bool o.y, o.nv] 55) := Below_heap_new X0 _
          have hB1 := hB0.alloc hB0.size (.cells #[.int .i64 o.v.a, .int .i64 o.v.b, .int .i64 o.v.c, .string o.v.p, .bool o.y, o.nv] 55)
          refine hK.out _ _ ⟨hOf.on hB1, hB1⟩ (fun hHeld => ?_)
          clear hK K
          (try simp only [Act.put, putL])
          obtain ⟨bo, hbo⟩ : ∃ b, X0.heap.size = b := ⟨_, rfl⟩
          rw [hbo] at hN1 ⊢
          generalize X0.alloc (.cells #[.int .i64 o.v.a, .int .i64 o.v.b, .int .i64 o.v.c, .string o.v.p, .bool o.y, o.nv] 55) = X1 at *
          refine wpAnyH_ready (rs := [0]) (by kernel_rfl) (by simp) ?_
          refine AllReadyH.cons rfl (fun K hK => ?_) (AllReadyH.nil)
          go_simp
          obtain ⟨b0, hb0⟩ : ∃ b, X1.heap.size = b := ⟨_, rfl⟩
          have ow0 : (X1.alloc (.cells #[] 55)).ownsRow X0.heap.size 55 6 (.slice (some ⟨b0, 0, none⟩) 0 0) 0 [] := by
           rw [← hb0]; exact World.ownsRow_made (base := X0.heap.size) (size := 6) (e := 55) X1 #[] 0 hB1.size (by decide) rfl
          have hB2 := hB1.alloc hB1.size (.cells #[] 55)
          have hN2 := new_alloc hN1 (.cells #[] 55)
          have hD2 : (Value.slice (some ⟨X1.heap.size, 0, none⟩) 0 0).ownBlock ≠ some bo := fun e => by
           have h1 := (Array.getElem?_eq_some_iff.1 hN1).1
           have e2 : X1.heap.size = bo := by injection e
           omega
          refine hK.out _ _ ⟨hOf.on hB2, hB2⟩ (fun hHeld => ?_)
          clear hK K
          (try simp only [Act.put, putL])
          rw [hb0] at hD2 ⊢
          generalize X1.alloc (.cells #[] 55) = X2 at *
          refine wpAnyH_ready (rs := [4]) (by kernel_rfl) (by simp) ?_
          refine AllReadyH.cons rfl (fun K hK => ?_) (AllReadyH.nil)
          refine step_app (by rfl) (.tmp 70) (.tmp 73) 50 (by rfl) X0.heap.size 55 i0' (.agg #[.int .i64 0, .int .i64 0, .int .i64 0, .string ⟨#[]⟩, .bool false, .slice none 0 0]) 6 72 Tryz.underlying50 hi hz0 hz1 hz2 rfl (by decide) (.slice (some ⟨b0, 0, none⟩) 0 0) 0 [] (by simp [Act.eval]) ow0 none 0 0 [] (by simp [Act.eval]) HL1.out (HM1.out _ hB2) HC1.out (by unfold maxLen; omega) (by omega) hB2.size ?_
          intro v3 X3 ow3 hg3 hk3
          have hB3 := below_grown hB2 ow0 hg3 hB2.size
          have hN3 := new_kept hN2 hD2 hg3
          have hD3 : v3.ownBlock ≠ some bo := by
           have h1 := (Array.getElem?_eq_some_iff.1 hN2).1
           rcases hk3 with e | e
           ·rw [e]; exact hD2
           ·rw [e]; intro e; have e2 : X2.heap.size = bo := by injection e
            omega
          refine hK.out _ _ ⟨hOf.on hB3, hB3⟩ (fun hHeld => ?_)
          clear hK K
          (try simp only [Act.put, putL])
          refine wpAnyH_ready (rs := [7]) (by kernel_rfl) (by simp) ?_
          refine AllReadyH.cons rfl (fun K hK => ?_) (AllReadyH.nil)
          refine step_app (by rfl) (.tmp 74) (.tmp 76) 50 (by rfl) X0.heap.size 55 i0' (.agg #[.int .i64 0, .int .i64 0, .int .i64 0, .string ⟨#[]⟩, .bool false, .slice none 0 0]) 6 72 Tryz.underlying50 hi hz0 hz1 hz2 rfl (by decide) v3 (0 + 0) ([] ++ []) (by simp [Act.eval]) ow3 (some ⟨bo, 0, none⟩) 1 1 o.cells (by simp [Act.eval]) rfl (.inr ⟨_, rfl, World.news_of_block hN3⟩) HC0.out (by unfold maxLen; omega) (by omega) hB3.size ?_
          intro v4 X4 ow4 hg4 hk4
          have hB4 := below_grown hB3 ow3 hg4 hB3.size
          refine hK.out _ _ ⟨hOf.on hB4, hB4⟩ (fun hHeld => ?_)
          clear hK K
          (try simp only [Act.put, putL])
          refine wpAnyH_ready (rs := [11]) (by kernel_rfl) (by simp) ?_
          refine AllReadyH.cons rfl (fun K hK => ?_) (AllReadyH.nil)
          refine step_app (by rfl) (.tmp 77) (.tmp 80) 50 (by rfl) X0.heap.size 55 i0' (.agg #[.int .i64 0, .int .i64 0, .int .i64 0, .string ⟨#[]⟩, .bool false, .slice none 0 0]) 6 72 Tryz.underlying50 hi hz0 hz1 hz2 rfl (by decide) v4 ((0 + 0) + 1) (([] ++ []) ++ o.cells) (by simp [Act.eval]) ow4 none 0 0 [] (by simp [Act.eval]) HL2.out (HM2.out _ hB4) HC2.out (by unfold maxLen; omega) (by omega) hB4.size ?_
          intro v5 X5 ow5 hg5 hk5
          have hB5 := below_grown hB4 ow4 hg5 hB4.size
          refine hK.out _ _ ⟨hOf.on hB5, hB5⟩ (fun hHeld => ?_)
          clear hK K
          (try simp only [Act.put, putL])
          refine wpAnyH_take (i := 12) (v := ?_) rfl (by kernel_rfl) (by kernel_rfl) (by kernel_rfl) (fun _ _ _ h => h) (Or.inl ⟨by kernel_rfl, ?_⟩) hHeld ?_
          rotate_left
          ·(intro W hSw; (try dsimp only at hSw); go_simp; (try with_reducible rfl))
          (try simp only [Act.put, putL])
          refine wpAnyH_done (by kernel_rfl) ?_ _
          go_wp2
          go_roundw
          case rel => exact ⟨k + 1, insAt [] o 0, hlt, by go_num, HIn2.out, by rw [insAt_len _ _ (by first | exact hj | exact Nat.zero_le _)]; omega, HFin.out _ _ ow5, hBw.trans (hB5.mono hBw.size)⟩
          case measure => simp [intOf]; omega
        ·injection hv with q1 _ q3
         subst q1 q3
         have hcap : out.length ≤ vcap := by
          rcases HOw6.out.2 with ⟨h, _⟩ | ⟨g', cap', cur, h, _, _, h4, _⟩
          ·cases h
          ·injection h with _ _ h; omega
         have j0 : (0 : Int) ≤ (j : Int) := by omega
         have j1 : (j : Int) ≤ (vcap : Int) := by omega
         have j2 : (j : Int) ≤ (out.length : Int) := by omega
         have j3 : (out.length : Int) ≤ (vcap : Int) := by omega
         have hcl : ∀ i u, (out.flatMap DOff.cells)[i]? = some u → wc.drew.cell? ⟨g, i, none⟩ = some u := fun i u hu => by
          have h1 : i < out.length * 6 := by
           have := (List.getElem?_eq_some_iff.1 hu).1
           rw [offs_len] at this; exact this
          have h2 := World.ownsRow.cellAt HOw6.out i h1
          rw [← hu, ← h2]; simp
         have hgl : g < wc.drew.heap.size := by
          have := own_lt HOw6.out (g := g) rfl
          simpa using this
         obtain ⟨q, hq, hqj⟩ : ∃ q, (if vcap = j then some (⟨g, 0, none⟩ : Addr) else some ⟨g, j * 6, none⟩) = some ⟨g, q, none⟩ ∧ (j < out.length → q = j * 6) := by
          by_cases h : vcap = j
          ·exact ⟨0, by rw [if_pos h], fun h2 => by omega⟩
          ·exact ⟨j * 6, by rw [if_neg h], fun _ => rfl⟩
         go_wp2_with fail
         refine wp_region_held_drew (S := (fun W => OfS b9 o wc.drew W)) (by kernel_rfl) (hst) (fun hHeld => ?_)
         refine wpAnyH_take (i := 1) (v := ?_) rfl (by kernel_rfl) (by kernel_rfl) (by kernel_rfl) (fun _ _ _ h => h) (Or.inl ⟨by kernel_rfl, ?_⟩) hHeld ?_
         rotate_left
         ·(rintro W ⟨⟨⟨e0, e1, e2, e3⟩, e4, e5⟩, _⟩; go_simp; (try with_reducible rfl))
         (try simp only [Act.put, putL])
         refine wpAnyH_take (i := 2) (v := ?_) rfl (by kernel_rfl) (by kernel_rfl) (by kernel_rfl) (fun _ _ _ h => h) (Or.inl ⟨by kernel_rfl, ?_⟩) hHeld ?_
         rotate_left
         ·(rintro W ⟨⟨⟨e0, e1, e2, e3⟩, e4, e5⟩, _⟩; go_simp; (try with_reducible rfl))
         (try simp only [Act.put, putL])
         refine wpAnyH_take (i := 3) (v := ?_) rfl (by kernel_rfl) (by kernel_rfl) (by kernel_rfl) (fun _ _ _ h => h) (Or.inl ⟨by kernel_rfl, ?_⟩) hHeld ?_
         rotate_left
         ·(rintro W ⟨⟨⟨e0, e1, e2, e3⟩, e4, e5⟩, _⟩; go_simp; (try with_reducible rfl))
         (try simp only [Act.put, putL])
         refine wpAnyH_take (i := 5) (v := ?_) rfl (by kernel_rfl) (by kernel_rfl) (by kernel_rfl) (fun _ _ _ h => h) (Or.inl ⟨by kernel_rfl, ?_⟩) hHeld ?_
         rotate_left
         ·(rintro W ⟨⟨⟨e0, e1, e2, e3⟩, e4, e5⟩, _⟩; go_simp; (try with_reducible rfl))
         (try simp only [Act.put, putL])
         refine wpAnyH_take (i := 8) (v := ?_) rfl (by kernel_rfl) (by kernel_rfl) (by kernel_rfl) (fun _ _ _ h => h) (Or.inl ⟨by kernel_rfl, ?_⟩) hHeld ?_
         rotate_left
         ·(rintro W ⟨⟨⟨e0, e1, e2, e3⟩, e4, e5⟩, _⟩; go_simp; (try with_reducible rfl))
         (try simp only [Act.put, putL])
         refine wpAnyH_take (i := 9) (v := ?_) rfl (by kernel_rfl) (by kernel_rfl) (by kernel_rfl) (fun _ _ _ h => h) (Or.inl ⟨by kernel_rfl, ?_⟩) hHeld ?_
         rotate_left
         ·(rintro W ⟨⟨⟨e0, e1, e2, e3⟩, e4, e5⟩, _⟩; go_simp; (try with_reducible rfl))
         (try simp only [Act.put, putL])
         refine wpAnyH_take (i := 10) (v := ?_) rfl (by kernel_rfl) (by kernel_rfl) (by kernel_rfl) (fun _ _ _ h => h) (Or.inl ⟨by kernel_rfl, ?_⟩) hHeld ?_
         rotate_left
         ·(rintro W ⟨⟨⟨e0, e1, e2, e3⟩, e4, e5⟩, _⟩; go_simp; (try with_reducible rfl))
         (try simp only [Act.put, putL])
         try rw [hq]
         generalize wc.drew = X0 at *
         have hOf := hst.1
         have hB0 := Below.refl X0.heap.size X0
         have hadd : ∀ (b x i : Nat), (⟨b, x, none⟩ : Addr).add i = ⟨b, x + i, none⟩ := fun b x i => by unfold Addr.add; split <;> simp_all
         have HL1 : Hid (((out.take j).flatMap DOff.cells).length = j * 6) := by
          show _ = _
          rw [offs_len, List.length_take, Nat.min_eq_left hj]
         have HL2 : Hid (((out.drop j).flatMap DOff.cells).length = (out.length - j) * 6) := by
          show _ = _
          rw [offs_len, List.length_drop]
         have hsp : (out.take j).flatMap DOff.cells ++ (out.drop j).flatMap DOff.cells = out.flatMap DOff.cells := by
          rw [← List.flatMap_append, List.take_append_drop]
         have HM1 : Hid (∀ W, Below X0.heap.size X0 W → (j = 0 ∨ ∃ ad, (some (⟨g, 0, none⟩ : Addr)) = some ad ∧ ∀ i u, ((out.take j).flatMap DOff.cells)[i]? = some u → W.cell? (ad.add i) = some u)) := fun W hW => .inr ⟨_, rfl, fun i u hu => by
          rw [hadd, Nat.zero_add, hW.cell (p := ⟨g, i, none⟩) hgl]
          refine hcl i u ?_
          rw [← hsp, List.getElem?_append_left (List.getElem?_eq_some_iff.1 hu).1]; exact hu⟩
         have HM2 : Hid (∀ W, Below X0.heap.size X0 W → (out.length - j = 0 ∨ ∃ ad, (some (⟨g, q, none⟩ : Addr)) = some ad ∧ ∀ i u, ((out.drop j).flatMap DOff.cells)[i]? = some u → W.cell? (ad.add i) = some u)) := fun W hW => by
          by_cases h : j < out.length
          ·refine .inr ⟨_, rfl, fun i u hu => ?_⟩
           rw [hadd, hqj h, hW.cell (p := ⟨g, j * 6 + i, none⟩) hgl]
           refine hcl _ u ?_
           rw [← hsp, List.getElem?_append_right (by rw [HL1.out]; omega), HL1.out, Nat.add_sub_cancel_left]; exact hu
          ·exact .inl (by omega)
         have hone : ∀ l : List DOff, ∀ u ∈ l.flatMap DOff.cells, u.oneCell' = true := fun l u hu => by
          obtain ⟨x, _, hx⟩ := List.mem_flatMap.1 hu
          exact dsix_one x u hx
         have HC1 : Hid (∀ u ∈ (out.take j).flatMap DOff.cells, u.oneCell' = true) := hone _
         have HC2 : Hid (∀ u ∈ (out.drop j).flatMap DOff.cells, u.oneCell' = true) := hone _
         have HFin : Hid (∀ (W : World) (v : Value), W.ownsRow X0.heap.size 55 6 v (((0 + j) + 1) + (out.length - j)) ((([] ++ ((out.take j).flatMap DOff.cells)) ++ o.cells) ++ ((out.drop j).flatMap DOff.cells)) → W.ownsRow W1.heap.size 55 6 v (insAt out o j).length ((insAt out o j).flatMap DOff.cells)) := fun W v h => by
          rw [insAt_len out o hj, insAt_cells]
          have e : 0 + j + 1 + (out.length - j) = out.length + 1 := by omega
          rw [e, List.nil_append] at h
          exact own_mono h hBw.size
         clear hcl hone hsp hadd hHeld
         refine wpAnyH_ready (rs := [0, 6]) (by kernel_rfl) (by simp) ?_
         refine AllReadyH.cons rfl (fun K hK => ?_) (AllReadyH.cons rfl (fun K hK => ?_) (AllReadyH.nil))
         ·go_simp
          obtain ⟨b0, hb0⟩ : ∃ b, X0.heap.size = b := ⟨_, rfl⟩
          have ow0 : (X0.alloc (.cells #[] 55)).ownsRow X0.heap.size 55 6 (.slice (some ⟨b0, 0, none⟩) 0 0) 0 [] := by
           rw [← hb0]; exact World.ownsRow_made (base := X0.heap.size) (size := 6) (e := 55) X0 #[] 0 hB0.size (by decide) rfl
          have hB1 := hB0.alloc hB0.size (.cells #[] 55)
          refine hK.out _ _ ⟨hOf.on hB1, hB1⟩ (fun hHeld => ?_)
          clear hK K
          (try simp only [Act.put, putL])
          rw [hb0]
          generalize X0.alloc (.cells #[] 55) = X1 at *
          refine wpAnyH_ready (rs := [4, 6]) (by kernel_rfl) (by simp) ?_
          refine AllReadyH.cons rfl (fun K hK => ?_) (AllReadyH.cons rfl (fun K hK => ?_) (AllReadyH.nil))
          ·refine step_app (by rfl) (.tmp 70) (.tmp 73) 50 (by rfl) X0.heap.size 55 i0' (.agg #[.int .i64 0, .int .i64 0, .int .i64 0, .string ⟨#[]⟩, .bool false, .slice none 0 0]) 6 72 Tryz.underlying50 hi hz0 hz1 hz2 rfl (by decide) (.slice (some ⟨b0, 0, none⟩) 0 0) 0 [] (by simp [Act.eval]) ow0 (some ⟨g, 0, none⟩) j vcap ((out.take j).flatMap DOff.cells) (by simp [Act.eval]) HL1.out (HM1.out _ hB1) HC1.out (by unfold maxLen; omega) (by omega) hB1.size ?_
           intro v2 X2 ow2 hg2 hk2
           have hB2 := below_grown hB1 ow0 hg2 hB1.size
           refine hK.out _ _ ⟨hOf.on hB2, hB2⟩ (fun hHeld => ?_)
           clear hK K
           (try simp only [Act.put, putL])
           refine wpAnyH_ready (rs := [6]) (by kernel_rfl) (by simp) ?_
           refine AllReadyH.cons rfl (fun K hK => ?_) (AllReadyH.nil)
           go_simp
           have hN3 : (X2.alloc (.cells #[.int .i64 o.v.a, .int .i64 o.v.b, .int .i64 o.v.c, .string o.v.p, .bool o.y, o.nv] 55)).heap[X2.heap.size]? = some (.cells #[.int .i64 o.v.a, .int .i64 o.v.b, .int .i64 o.v.c, .string o.v.p, .bool o.y, o.nv] 55) := Below_heap_new X2 _
           have hB3 := hB2.alloc hB2.size (.cells #[.int .i64 o.v.a, .int .i64 o.v.b, .int .i64 o.v.c, .string o.v.p, .bool o.y, o.nv] 55)
           have ow3 := ow2.alloc (.cells #[.int .i64 o.v.a, .int .i64 o.v.b, .int .i64 o.v.c, .string o.v.p, .bool o.y, o.nv] 55)
           have hD3 : (v2 : Value).ownBlock ≠ some X2.heap.size := fun e => Nat.lt_irrefl _ (own_lt ow2 e)
           refine hK.out _ _ ⟨hOf.on hB3, hB3⟩ (fun hHeld => ?_)
           clear hK K
           (try simp only [Act.put, putL])
           obtain ⟨bo, hbo⟩ : ∃ b, X2.heap.size = b := ⟨_, rfl⟩
           rw [hbo] at hN3 hD3 ⊢
           generalize X2.alloc (.cells #[.int .i64 o.v.a, .int .i64 o.v.b, .int .i64 o.v.c, .string o.v.p, .bool o.y, o.nv] 55) = X3 at *
           refine wpAnyH_ready (rs := [7]) (by kernel_rfl) (by simp) ?_
           refine AllReadyH.cons rfl (fun K hK => ?_) (AllReadyH.nil)
           refine step_app (by rfl) (.tmp 74) (.tmp 76) 50 (by rfl) X0.heap.size 55 i0' (.agg #[.int .i64 0, .int .i64 0, .int .i64 0, .string ⟨#[]⟩, .bool false, .slice none 0 0]) 6 72 Tryz.underlying50 hi hz0 hz1 hz2 rfl (by decide) v2 (0 + j) ([] ++ ((out.take j).flatMap DOff.cells)) (by simp [Act.eval]) ow3 (some ⟨bo, 0, none⟩) 1 1 o.cells (by simp [Act.eval]) rfl (.inr ⟨_, rfl, World.news_of_block hN3⟩) HC0.out (by unfold maxLen; omega) (by omega) hB3.size ?_
           intro v4 X4 ow4 hg4 hk4
           have hB4 := below_grown hB3 ow3 hg4 hB3.size
           refine hK.out _ _ ⟨hOf.on hB4, hB4⟩ (fun hHeld => ?_)
           clear hK K
           (try simp only [Act.put, putL])
           refine wpAnyH_ready (rs := [11]) (by kernel_rfl) (by simp) ?_
           refine AllReadyH.cons rfl (fun K hK => ?_) (AllReadyH.nil)
           refine step_app (by rfl) (.tmp 77) (.tmp 80) 50 (by rfl) X0.heap.size 55 i0' (.agg #[.int .i64 0, .int .i64 0, .int .i64 0, .string ⟨#[]⟩, .bool false, .slice none 0 0]) 6 72 Tryz.underlying50 hi hz0 hz1 hz2 rfl (by decide) v4 ((0 + j) + 1) (([] ++ ((out.take j).flatMap DOff.cells)) ++ o.cells) (by simp [Act.eval]) ow4 (some ⟨g, q, none⟩) (out.length - j) (vcap - j) ((out.drop j).flatMap DOff.cells) (by simp [Act.eval]) HL2.out (HM2.out _ hB4) HC2.out (by unfold maxLen; omega) (by omega) hB4.size ?_
           intro v5 X5 ow5 hg5 hk5
           have hB5 := below_grown hB4 ow4 hg5 hB4.size
           refine hK.out _ _ ⟨hOf.on hB5, hB5⟩ (fun hHeld => ?_)
           clear hK K
           (try simp only [Act.put, putL])
           refine wpAnyH_take (i := 12) (v := ?_) rfl (by kernel_rfl) (by kernel_rfl) (by kernel_rfl) (fun _ _ _ h => h) (Or.inl ⟨by kernel_rfl, ?_⟩) hHeld ?_
           rotate_left
           ·(intro W hSw; (try dsimp only at hSw); go_simp; (try with_reducible rfl))
           (try simp only [Act.put, putL])
           refine wpAnyH_done (by kernel_rfl) ?_ _
           go_wp2
           go_roundw
           case rel => exact ⟨k + 1, insAt out o j, hlt, by go_num, HIn2.out, by rw [insAt_len _ _ (by first | exact hj | exact Nat.zero_le _)]; omega, HFin.out _ _ ow5, hBw.trans (hB5.mono hBw.size)⟩
           case measure => simp [intOf]; omega
          ·go_simp
           have hN2 : (X1.alloc (.cells #[.int .i64 o.v.a, .int .i64 o.v.b, .int .i64 o.v.c, .string o.v.p, .bool o.y, o.nv] 55)).heap[X1.heap.size]? = some (.cells #[.int .i64 o.v.a, .int .i64 o.v.b, .int .i64 o.v.c, .string o.v.p, .bool o.y, o.nv] 55) := Below_heap_new X1 _
           have hB2 := hB1.alloc hB1.size (.cells #[.int .i64 o.v.a, .int .i64 o.v.b, .int .i64 o.v.c, .string o.v.p, .bool o.y, o.nv] 55)
           have ow2 := ow0.alloc (.cells #[.int .i64 o.v.a, .int .i64 o.v.b, .int .i64 o.v.c, .string o.v.p, .bool o.y, o.nv] 55)
           have hD2 : ((.slice (some ⟨b0, 0, none⟩) 0 0) : Value).ownBlock ≠ some X1.heap.size := fun e => Nat.lt_irrefl _ (own_lt ow0 e)
           refine hK.out _ _ ⟨hOf.on hB2, hB2⟩ (fun hHeld => ?_)
           clear hK K
           (try simp only [Act.put, putL])
           obtain ⟨bo, hbo⟩ : ∃ b, X1.heap.size = b := ⟨_, rfl⟩
           rw [hbo] at hN2 hD2 ⊢
           generalize X1.alloc (.cells #[.int .i64 o.v.a, .int .i64 o.v.b, .int .i64 o.v.c, .string o.v.p, .bool o.y, o.nv] 55) = X2 at *
           refine wpAnyH_ready (rs := [4]) (by kernel_rfl) (by simp) ?_
           refine AllReadyH.cons rfl (fun K hK => ?_) (AllReadyH.nil)
           refine step_app (by rfl) (.tmp 70) (.tmp 73) 50 (by rfl) X0.heap.size 55 i0' (.agg #[.int .i64 0, .int .i64 0, .int .i64 0, .string ⟨#[]⟩, .bool false, .slice none 0 0]) 6 72 Tryz.underlying50 hi hz0 hz1 hz2 rfl (by decide) (.slice (some ⟨b0, 0, none⟩) 0 0) 0 [] (by simp [Act.eval]) ow2 (some ⟨g, 0, none⟩) j vcap ((out.take j).flatMap DOff.cells) (by simp [Act.eval]) HL1.out (HM1.out _ hB2) HC1.out (by unfold maxLen; omega) (by omega) hB2.size ?_
           intro v3 X3 ow3 hg3 hk3
           have hB3 := below_grown hB2 ow2 hg3 hB2.size
           have hN3 := new_kept hN2 hD2 hg3
           have hD3 : v3.ownBlock ≠ some bo := by
            have h1 := (Array.getElem?_eq_some_iff.1 hN2).1
            rcases hk3 with e | e
            ·rw [e]; exact hD2
            ·rw [e]; intro e; have e2 : X2.heap.size = bo := by injection e
             omega
           refine hK.out _ _ ⟨hOf.on hB3, hB3⟩ (fun hHeld => ?_)
           clear hK K
           (try simp only [Act.put, putL])
           refine wpAnyH_ready (rs := [7]) (by kernel_rfl) (by simp) ?_
           refine AllReadyH.cons rfl (fun K hK => ?_) (AllReadyH.nil)
           refine step_app (by rfl) (.tmp 74) (.tmp 76) 50 (by rfl) X0.heap.size 55 i0' (.agg #[.int .i64 0, .int .i64 0, .int .i64 0, .string ⟨#[]⟩, .bool false, .slice none 0 0]) 6 72 Tryz.underlying50 hi hz0 hz1 hz2 rfl (by decide) v3 (0 + j) ([] ++ ((out.take j).flatMap DOff.cells)) (by simp [Act.eval]) ow3 (some ⟨bo, 0, none⟩) 1 1 o.cells (by simp [Act.eval]) rfl (.inr ⟨_, rfl, World.news_of_block hN3⟩) HC0.out (by unfold maxLen; omega) (by omega) hB3.size ?_
           intro v4 X4 ow4 hg4 hk4
           have hB4 := below_grown hB3 ow3 hg4 hB3.size
           refine hK.out _ _ ⟨hOf.on hB4, hB4⟩ (fun hHeld => ?_)
           clear hK K
           (try simp only [Act.put, putL])
           refine wpAnyH_ready (rs := [11]) (by kernel_rfl) (by simp) ?_
           refine AllReadyH.cons rfl (fun K hK => ?_) (AllReadyH.nil)
           refine step_app (by rfl) (.tmp 77) (.tmp 80) 50 (by rfl) X0.heap.size 55 i0' (.agg #[.int .i64 0, .int .i64 0, .int .i64 0, .string ⟨#[]⟩, .bool false, .slice none 0 0]) 6 72 Tryz.underlying50 hi hz0 hz1 hz2 rfl (by decide) v4 ((0 + j) + 1) (([] ++ ((out.take j).flatMap DOff.cells)) ++ o.cells) (by simp [Act.eval]) ow4 (some ⟨g, q, none⟩) (out.length - j) (vcap - j) ((out.drop j).flatMap DOff.cells) (by simp [Act.eval]) HL2.out (HM2.out _ hB4) HC2.out (by unfold maxLen; omega) (by omega) hB4.size ?_
           intro v5 X5 ow5 hg5 hk5
           have hB5 := below_grown hB4 ow4 hg5 hB4.size
           refine hK.out _ _ ⟨hOf.on hB5, hB5⟩ (fun hHeld => ?_)
           clear hK K
           (try simp only [Act.put, putL])
           refine wpAnyH_take (i := 12) (v := ?_) rfl (by kernel_rfl) (by kernel_rfl) (by kernel_rfl) (fun _ _ _ h => h) (Or.inl ⟨by kernel_rfl, ?_⟩) hHeld ?_
           rotate_left
           ·(intro W hSw; (try dsimp only at hSw); go_simp; (try with_reducible rfl))
           (try simp only [Act.put, putL])
           refine wpAnyH_done (by kernel_rfl) ?_ _
           go_wp2
           go_roundw
           case rel => exact ⟨k + 1, insAt out o j, hlt, by go_num, HIn2.out, by rw [insAt_len _ _ (by first | exact hj | exact Nat.zero_le _)]; omega, HFin.out _ _ ow5, hBw.trans (hB5.mono hBw.size)⟩
           case measure => simp [intOf]; omega
         ·go_simp
          have hN1 : (X0.alloc (.cells #[.int .i64 o.v.a, .int .i64 o.v.b, .int .i64 o.v.c, .string o.v.p, .bool o.y, o.nv] 55)).heap[X0.heap.size]? = some (.cells #[.int .i64 o.v.a, .int .i64 o.v.b, .int .i64 o.v.c, .string o.v.p, .bool o.y, o.nv] 55) := Below_heap_new X0 _
          have hB1 := hB0.alloc hB0.size (.cells #[.int .i64 o.v.a, .int .i64 o.v.b, .int .i64 o.v.c, .string o.v.p, .bool o.y, o.nv] 55)
          refine hK.out _ _ ⟨hOf.on hB1, hB1⟩ (fun hHeld => ?_)
          clear hK K
          (try simp only [Act.put, putL])
          obtain ⟨bo, hbo⟩ : ∃ b, X0.heap.size = b := ⟨_, rfl⟩
          rw [hbo] at hN1 ⊢
          generalize X0.alloc (.cells #[.int .i64 o.v.a, .int .i64 o.v.b, .int .i64 o.v.c, .string o.v.p, .bool o.y, o.nv] 55) = X1 at *
          refine wpAnyH_ready (rs := [0]) (by kernel_rfl) (by simp) ?_
          refine AllReadyH.cons rfl (fun K hK => ?_) (AllReadyH.nil)
          go_simp
          obtain ⟨b0, hb0⟩ : ∃ b, X1.heap.size = b := ⟨_, rfl⟩
          have ow0 : (X1.alloc (.cells #[] 55)).ownsRow X0.heap.size 55 6 (.slice (some ⟨b0, 0, none⟩) 0 0) 0 [] := by
           rw [← hb0]; exact World.ownsRow_made (base := X0.heap.size) (size := 6) (e := 55) X1 #[] 0 hB1.size (by decide) rfl
          have hB2 := hB1.alloc hB1.size (.cells #[] 55)
          have hN2 := new_alloc hN1 (.cells #[] 55)
          have hD2 : (Value.slice (some ⟨X1.heap.size, 0, none⟩) 0 0).ownBlock ≠ some bo := fun e => by
           have h1 := (Array.getElem?_eq_some_iff.1 hN1).1
           have e2 : X1.heap.size = bo := by injection e
           omega
          refine hK.out _ _ ⟨hOf.on hB2, hB2⟩ (fun hHeld => ?_)
          clear hK K
          (try simp only [Act.put, putL])
          rw [hb0] at hD2 ⊢
          generalize X1.alloc (.cells #[] 55) = X2 at *
          refine wpAnyH_ready (rs := [4]) (by kernel_rfl) (by simp) ?_
          refine AllReadyH.cons rfl (fun K hK => ?_) (AllReadyH.nil)
          refine step_app (by rfl) (.tmp 70) (.tmp 73) 50 (by rfl) X0.heap.size 55 i0' (.agg #[.int .i64 0, .int .i64 0, .int .i64 0, .string ⟨#[]⟩, .bool false, .slice none 0 0]) 6 72 Tryz.underlying50 hi hz0 hz1 hz2 rfl (by decide) (.slice (some ⟨b0, 0, none⟩) 0 0) 0 [] (by simp [Act.eval]) ow0 (some ⟨g, 0, none⟩) j vcap ((out.take j).flatMap DOff.cells) (by simp [Act.eval]) HL1.out (HM1.out _ hB2) HC1.out (by unfold maxLen; omega) (by omega) hB2.size ?_
          intro v3 X3 ow3 hg3 hk3
          have hB3 := below_grown hB2 ow0 hg3 hB2.size
          have hN3 := new_kept hN2 hD2 hg3
          have hD3 : v3.ownBlock ≠ some bo := by
           have h1 := (Array.getElem?_eq_some_iff.1 hN2).1
           rcases hk3 with e | e
           ·rw [e]; exact hD2
           ·rw [e]; intro e; have e2 : X2.heap.size = bo := by injection e
            omega
          refine hK.out _ _ ⟨hOf.on hB3, hB3⟩ (fun hHeld => ?_)
          clear hK K
          (try simp only [Act.put, putL])
          refine wpAnyH_ready (rs := [7]) (by kernel_rfl) (by simp) ?_
          refine AllReadyH.cons rfl (fun K hK => ?_) (AllReadyH.nil)
          refine step_app (by rfl) (.tmp 74) (.tmp 76) 50 (by rfl) X0.heap.size 55 i0' (.agg #[.int .i64 0, .int .i64 0, .int .i64 0, .string ⟨#[]⟩, .bool false, .slice none 0 0]) 6 72 Tryz.underlying50 hi hz0 hz1 hz2 rfl (by decide) v3 (0 + j) ([] ++ ((out.take j).flatMap DOff.cells)) (by simp [Act.eval]) ow3 (some ⟨bo, 0, none⟩) 1 1 o.cells (by simp [Act.eval]) rfl (.inr ⟨_, rfl, World.news_of_block hN3⟩) HC0.out (by unfold maxLen; omega) (by omega) hB3.size ?_
          intro v4 X4 ow4 hg4 hk4
          have hB4 := below_grown hB3 ow3 hg4 hB3.size
          refine hK.out _ _ ⟨hOf.on hB4, hB4⟩ (fun hHeld => ?_)
          clear hK K
          (try simp only [Act.put, putL])
          refine wpAnyH_ready (rs := [11]) (by kernel_rfl) (by simp) ?_
          refine AllReadyH.cons rfl (fun K hK => ?_) (AllReadyH.nil)
          refine step_app (by rfl) (.tmp 77) (.tmp 80) 50 (by rfl) X0.heap.size 55 i0' (.agg #[.int .i64 0, .int .i64 0, .int .i64 0, .string ⟨#[]⟩, .bool false, .slice none 0 0]) 6 72 Tryz.underlying50 hi hz0 hz1 hz2 rfl (by decide) v4 ((0 + j) + 1) (([] ++ ((out.take j).flatMap DOff.cells)) ++ o.cells) (by simp [Act.eval]) ow4 (some ⟨g, q, none⟩) (out.length - j) (vcap - j) ((out.drop j).flatMap DOff.cells) (by simp [Act.eval]) HL2.out (HM2.out _ hB4) HC2.out (by unfold maxLen; omega) (by omega) hB4.size ?_
          intro v5 X5 ow5 hg5 hk5
          have hB5 := below_grown hB4 ow4 hg5 hB4.size
          refine hK.out _ _ ⟨hOf.on hB5, hB5⟩ (fun hHeld => ?_)
          clear hK K
          (try simp only [Act.put, putL])
          refine wpAnyH_take (i := 12) (v := ?_) rfl (by kernel_rfl) (by kernel_rfl) (by kernel_rfl) (fun _ _ _ h => h) (Or.inl ⟨by kernel_rfl, ?_⟩) hHeld ?_
          rotate_left
          ·(intro W hSw; (try dsimp only at hSw); go_simp; (try with_reducible rfl))
          (try simp only [Act.put, putL])
          refine wpAnyH_done (by kernel_rfl) ?_ _
          go_wp2
          go_roundw
          case rel => exact ⟨k + 1, insAt out o j, hlt, by go_num, HIn2.out, by rw [insAt_len _ _ (by first | exact hj | exact Nat.zero_le _)]; omega, HFin.out _ _ ow5, hBw.trans (hB5.mono hBw.size)⟩
          case measure => simp [intOf]; omega
  ·have q5 : decide (k < os.length) = false := decide_eq_false hlt
   have hins2 := HIn.out
   rw [List.take_of_length_le (by omega)] at hins2
   have hbw := HW.out.trans (hb.mono HW.out.size)
   have HF : Hid (OffersPost lock nm needs os w (.returned (.slice va out.length vcap)) wr) :=
    ⟨_, out, rfl, hins2, ORow.of_owns HOw.out, hbw, (FreshV.of_owns HOw.out).mono HW.out.size⟩
   clear hlt hins2
   go_wp2_with fail
   go_ret
   exact HF.out
end Go.Proofs.YtbgimpeklblcjaaGreatDoor

namespace Go
open Go.RowKit
/-- a name more, if it is not there; the names rise -/
def addL : List Nam → Nam → List Nam
 | [], a => [a]
 | x :: xs, a => if x < a then x :: addL xs a else if x = a then x :: xs else a :: x :: xs
theorem addL_mem (a : Nam) : ∀ (l : List Nam) (x : Nam), x ∈ addL l a ↔ x = a ∨ x ∈ l
 | [], x => by simp [addL]
 | y :: ys, x => by
  unfold addL
  split
  ·rw [List.mem_cons, addL_mem a ys x, List.mem_cons]
   constructor
   ·rintro (h | h | h)
    ·exact .inr (.inl h)
    ·exact .inl h
    ·exact .inr (.inr h)
   ·rintro (h | h | h)
    ·exact .inr (.inl h)
    ·exact .inl h
    ·exact .inr (.inr h)
  ·split
   ·rename_i h
    subst h
    simp
   ·simp
theorem addL_up (a : Nam) : ∀ (l : List Nam), l.Pairwise (· < ·) → (addL l a).Pairwise (· < ·)
 | [], _ => by simp [addL]
 | y :: ys, h => by
  obtain ⟨h1, h2⟩ := List.pairwise_cons.1 h
  unfold addL
  split
  ·rename_i hlt
   refine List.pairwise_cons.2 ⟨fun x hx => ?_, addL_up a ys h2⟩
   rcases (addL_mem a ys x).1 hx with rfl | hx
   ·exact hlt
   ·exact h1 x hx
  ·split
   ·exact h
   ·rename_i hn hne
    have hay : a < y := by
     rcases List.le_iff_lt_or_eq.1 (List.not_lt.1 hn) with h | h
     ·exact h
     ·exact absurd h.symm hne
    refine List.pairwise_cons.2 ⟨fun x hx => ?_, h⟩
    rcases List.mem_cons.1 hx with rfl | hx
    ·exact hay
    ·exact List.lt_trans hay (h1 x hx)
theorem addL_at {a : Nam} : ∀ (l : List Nam) (j : Nat), j ≤ l.length → (∀ i (h : i < l.length), i < j → l[i] < a) → (∀ (h : j < l.length), ¬ l[j] < a ∧ l[j] ≠ a) → addL l a = l.take j ++ [a] ++ l.drop j
 | [], j, hj, _, _ => by simp at hj; subst hj; rfl
 | x :: xs, 0, _, _, h2 => by
  obtain ⟨h3, h4⟩ := h2 (by simp)
  have h3 : ¬ x < a := h3
  have h4 : x ≠ a := h4
  unfold addL; rw [if_neg h3, if_neg h4]; rfl
 | x :: xs, j + 1, hj, h1, h2 => by
  have h0 := h1 0 (by simp) (by omega)
  unfold addL
  rw [if_pos (show x < a from h0), addL_at xs j (by simpa using hj) (fun i h hi => h1 (i + 1) (by simpa using h) (by omega)) (fun h => h2 (by simpa using h))]
  rfl
theorem addL_there {a : Nam} : ∀ (l : List Nam) (j : Nat) (hj : j < l.length), (∀ i (h : i < l.length), i < j → l[i] < a) → l[j] = a → addL l a = l
 | x :: xs, 0, _, _, h2 => by
  have h2 : x = a := h2
  unfold addL; rw [if_neg (by rw [h2]; exact List.lt_irrefl a), if_pos h2]
 | x :: xs, j + 1, hj, h1, h2 => by
  have h0 := h1 0 (by simp) (by omega)
  unfold addL
  rw [if_pos (show x < a from h0), addL_there xs j (by simpa using hj) (fun i h hi => h1 (i + 1) (by simpa using h) (by omega)) h2]
theorem addL_len (a : Nam) : ∀ (l : List Nam), (addL l a).length ≤ l.length + 1
 | [] => by simp [addL]
 | y :: ys => by
  unfold addL
  have := addL_len a ys
  split
  ·simp; omega
  ·split <;> simp
/-- names that lie in a row of their own, or nowhere -/
def NamesAt (w : World) (v : Value) (ls : List Nam) : Prop :=
 (v = .slice none 0 0 ∧ ls = []) ∨ ∃ b off cap, v = .slice (some ⟨b, off, none⟩) ls.length cap ∧ 0 < ls.length ∧ ls.length ≤ cap ∧ cap ≤ maxLen ∧ b < w.heap.size ∧ ∀ j (h : j < ls.length), w.cell? ⟨b, off + j, none⟩ = some (.string (S ls[j]))
theorem NamesAt.below {w w' : World} {v : Value} {ls : List Nam} (h : NamesAt w v ls) {B : Nat} (hb : Below B w w') (hB : w.heap.size ≤ B) : NamesAt w' v ls := by
 rcases h with h | ⟨b, off, cap, h1, h2, h3, h4, h5, h6⟩
 ·exact .inl h
 ·refine .inr ⟨b, off, cap, h1, h2, h3, h4, Nat.lt_of_lt_of_le h5 hb.size, fun j hj => ?_⟩
  rw [hb.cell (p := ⟨b, off + j, none⟩) (Nat.lt_of_lt_of_le h5 hB)]; exact h6 j hj
theorem NamesAt.nil (w : World) : NamesAt w (.slice none 0 0) [] := .inl ⟨rfl, rfl⟩
theorem NamesAt.shape {w : World} {v : Value} {ls : List Nam} (h : NamesAt w v ls) : ∃ a cap, v = .slice a ls.length cap := by
 rcases h with ⟨h, rfl⟩ | ⟨b, off, cap, h1, _⟩
 ·exact ⟨_, _, h⟩
 ·exact ⟨_, _, h1⟩
theorem NamesAt.of_owns {w : World} {base : Nat} {e : TypeId} {v : Value} {n : Nat} {ls : List Nam} (h : w.ownsRow base e 1 v n (strs ls)) (h0 : 0 < ls.length) : NamesAt w v ls := by
 have h1 : n = ls.length := by have := h.1; rw [strs_length] at this; omega
 subst h1
 obtain ⟨g, cap, rfl⟩ := Joins.ownsRow_form h h0
 refine .inr ⟨g, 0, cap, rfl, h0, ?_, ?_, own_lt h rfl, fun j hj => ?_⟩
 ·rcases h.2 with ⟨h, _⟩ | ⟨g', cap', cur, h, _, _, h4, _⟩
  ·cases h
  ·injection h with _ _ h; omega
 ·rcases h.2 with ⟨h, _⟩ | ⟨g', cap', cur, h, _, _, _, h5, _⟩
  ·cases h
  ·injection h with _ _ h; omega
 ·have := World.ownsRow.cellAt h j (by omega)
  rw [Nat.zero_add, this, strs_get ls j hj]
theorem less_nam (x y : Nam) (b : Bool) (h : decide (x < y) = b) : Op.bytesLess (S x).toList (S y).toList = b := by
 rw [Lib.toList_data, Lib.toList_data, bLess, S_data, S_data]; exact h
/-- what the region looks at -/
def AddS (w0 W : World) : Prop := Below w0.heap.size w0 W
/-- what add comes to -/
def AddPost (ls : List Nam) (a : Nam) (w : World) (e : Ending) (w' : World) : Prop := ∃ v, e = .returned v ∧ NamesAt w' v (addL ls a) ∧ Below w.heap.size w w'
end Go
namespace Go.Proofs.YtbgimpeklblcjaaGreatDoor
open Go.RowKit
theorem info_nam : (Tryz.prog.info? 9).map (fun i => (i.zero, i.size, i.bytes)) = some (some (.string ⟨#[]⟩), 1, 16) := by kernel_rfl
def AdRel (ls : List Nam) (a : Nam) (w : World) (i : Value) (wr : World) : Prop := ∃ j : Nat, j ≤ ls.length ∧ i = .int .i64 (j : Int) ∧ (∀ i (h : i < ls.length), i < j → ls[i] < a) ∧ wr = w
set_option maxRecDepth 100000 in
set_option maxHeartbeats 4000000 in
theorem radd_nil (a : Nam) (w : World) : Calls Tryz.prog 19 #[.slice none 0 0, .string (S a)] w (AddPost [] a w) := by
 obtain ⟨i0', hi, hz0, hz1, hz2⟩ := info_of info_nam
 go_enter Tryz.func19, Tryz.ntmps19
 go_wp2_with fail
 go_loopw [5] (fun i wr => i = .int .i64 0 ∧ wr = w) (fun _ _ => 0)
 case atStart => exact ⟨rfl, rfl⟩
 case round =>
  obtain ⟨rfl, rfl⟩ := hrel
  go_wp2_with fail
  have hBw : Below wr.heap.size wr wr.drew := (Below.refl _ _).drew
  have hst : AddS wr.drew wr.drew := Below.refl wr.drew.heap.size wr.drew
  refine wp_region_held_drew (S := (fun W => AddS wr.drew W)) (by kernel_rfl) (hst) (fun hHeld => ?_)
  refine wpAnyH_take (i := 1) (v := ?_) rfl (by kernel_rfl) (by kernel_rfl) (by kernel_rfl) (fun _ _ _ h => h) (Or.inl ⟨by kernel_rfl, ?_⟩) hHeld ?_
  rotate_left
  ·(intro W _; go_simp; (try with_reducible rfl))
  (try simp only [Act.put, putL])
  refine wpAnyH_take (i := 2) (v := ?_) rfl (by kernel_rfl) (by kernel_rfl) (by kernel_rfl) (fun _ _ _ h => h) (Or.inl ⟨by kernel_rfl, ?_⟩) hHeld ?_
  rotate_left
  ·(intro W _; go_simp; (try with_reducible rfl))
  (try simp only [Act.put, putL])
  refine wpAnyH_take (i := 3) (v := ?_) rfl (by kernel_rfl) (by kernel_rfl) (by kernel_rfl) (fun _ _ _ h => h) (Or.inl ⟨by kernel_rfl, ?_⟩) hHeld ?_
  rotate_left
  ·(intro W _; go_simp; (try with_reducible rfl))
  (try simp only [Act.put, putL])
  refine wpAnyH_take (i := 5) (v := ?_) rfl (by kernel_rfl) (by kernel_rfl) (by kernel_rfl) (fun _ _ _ h => h) (Or.inl ⟨by kernel_rfl, ?_⟩) hHeld ?_
  rotate_left
  ·(intro W _; go_simp; (try with_reducible rfl))
  (try simp only [Act.put, putL])
  refine wpAnyH_take (i := 8) (v := ?_) rfl (by kernel_rfl) (by kernel_rfl) (by kernel_rfl) (fun _ _ _ h => h) (Or.inl ⟨by kernel_rfl, ?_⟩) hHeld ?_
  rotate_left
  ·(intro W _; go_simp; (try with_reducible rfl))
  (try simp only [Act.put, putL])
  refine wpAnyH_take (i := 9) (v := ?_) rfl (by kernel_rfl) (by kernel_rfl) (by kernel_rfl) (fun _ _ _ h => h) (Or.inl ⟨by kernel_rfl, ?_⟩) hHeld ?_
  rotate_left
  ·(intro W _; go_simp; (try with_reducible rfl))
  (try simp only [Act.put, putL])
  refine wpAnyH_take (i := 10) (v := ?_) rfl (by kernel_rfl) (by kernel_rfl) (by kernel_rfl) (fun _ _ _ h => h) (Or.inl ⟨by kernel_rfl, ?_⟩) hHeld ?_
  rotate_left
  ·(intro W _; go_simp; (try with_reducible rfl))
  (try simp only [Act.put, putL])
  generalize wr.drew = X0 at *
  have hB0 := Below.refl X0.heap.size X0
  have HC0 : Hid (∀ u ∈ [Value.string (S a)], u.oneCell' = true) := fun u hu => by simp at hu; subst hu; rfl
  have HL1 : Hid (([] : List Value).length = 0 * 1) := rfl
  have HL2 : Hid (([] : List Value).length = 0 * 1) := rfl
  have HM1 : Hid (∀ W, Below X0.heap.size X0 W → (0 = 0 ∨ ∃ ad, (none : Option Addr) = some ad ∧ ∀ (i : Nat) (u : Value), ([] : List Value)[i]? = some u → W.cell? (ad.add i) = some u)) := fun _ _ => .inl rfl
  have HM2 := HM1
  have HC1 : Hid (∀ u ∈ ([] : List Value), u.oneCell' = true) := fun u h => by cases h
  have HC2 := HC1
  have HFin : Hid (∀ (W : World) (v : Value), W.ownsRow X0.heap.size 9 1 v (((0 + 0) + 1) + 0) ((([] ++ []) ++ [.string (S a)]) ++ []) → NamesAt W v (addL [] a)) := fun W v h => NamesAt.of_owns (ls := [a]) h (show 0 < 1 by decide)
  refine wpAnyH_ready (rs := [0, 6]) (by kernel_rfl) (by simp) ?_
  refine AllReadyH.cons rfl (fun K hK => ?_) (AllReadyH.cons rfl (fun K hK => ?_) (AllReadyH.nil))
  ·go_simp
   obtain ⟨b0, hb0⟩ : ∃ b, X0.heap.size = b := ⟨_, rfl⟩
   have ow0 : (X0.alloc (.cells #[] 9)).ownsRow X0.heap.size 9 1 (.slice (some ⟨b0, 0, none⟩) 0 0) 0 [] := by
    rw [← hb0]; exact World.ownsRow_made (base := X0.heap.size) (size := 1) (e := 9) X0 #[] 0 hB0.size (by decide) rfl
   have hB1 := hB0.alloc hB0.size (.cells #[] 9)
   refine hK.out _ _ hB1 (fun hHeld => ?_)
   clear hK K
   (try simp only [Act.put, putL])
   rw [hb0]
   generalize X0.alloc (.cells #[] 9) = X1 at *
   refine wpAnyH_ready (rs := [4, 6]) (by kernel_rfl) (by simp) ?_
   refine AllReadyH.cons rfl (fun K hK => ?_) (AllReadyH.cons rfl (fun K hK => ?_) (AllReadyH.nil))
   ·refine step_app (by rfl) (.tmp 33) (.tmp 36) 56 (by rfl) X0.heap.size 9 i0' (.string ⟨#[]⟩) 1 16 Tryz.underlying56 hi hz0 hz1 hz2 rfl (by decide) (.slice (some ⟨b0, 0, none⟩) 0 0) 0 [] (by simp [Act.eval]) ow0 none 0 0 [] (by first | (simp [Act.eval]; done) | (simp [Act.eval]; exact hq3.out)) HL1.out (HM1.out _ hB1) HC1.out (by unfold maxLen; omega) (by omega) hB1.size ?_
    intro v2 X2 ow2 hg2 hk2
    have hB2 := below_grown hB1 ow0 hg2 hB1.size
    refine hK.out _ _ hB2 (fun hHeld => ?_)
    clear hK K
    (try simp only [Act.put, putL])
    refine wpAnyH_ready (rs := [6]) (by kernel_rfl) (by simp) ?_
    refine AllReadyH.cons rfl (fun K hK => ?_) (AllReadyH.nil)
    go_simp
    have hN3 : (X2.alloc (.cells #[.string (S a)] 9)).heap[X2.heap.size]? = some (.cells #[.string (S a)] 9) := Below_heap_new X2 _
    have hB3 := hB2.alloc hB2.size (.cells #[.string (S a)] 9)
    have ow3 := ow2.alloc (.cells #[.string (S a)] 9)
    have hD3 : (v2 : Value).ownBlock ≠ some X2.heap.size := fun e => Nat.lt_irrefl _ (own_lt ow2 e)
    refine hK.out _ _ hB3 (fun hHeld => ?_)
    clear hK K
    (try simp only [Act.put, putL])
    obtain ⟨bo, hbo⟩ : ∃ b, X2.heap.size = b := ⟨_, rfl⟩
    rw [hbo] at hN3 hD3 ⊢
    generalize X2.alloc (.cells #[.string (S a)] 9) = X3 at *
    refine wpAnyH_ready (rs := [7]) (by kernel_rfl) (by simp) ?_
    refine AllReadyH.cons rfl (fun K hK => ?_) (AllReadyH.nil)
    refine step_app (by rfl) (.tmp 37) (.tmp 39) 56 (by rfl) X0.heap.size 9 i0' (.string ⟨#[]⟩) 1 16 Tryz.underlying56 hi hz0 hz1 hz2 rfl (by decide) v2 (0 + 0) ([] ++ []) (by simp [Act.eval]) ow3 (some ⟨bo, 0, none⟩) 1 1 [.string (S a)] (by first | (simp [Act.eval]; done) | (simp [Act.eval]; exact hq3.out)) rfl (.inr ⟨_, rfl, World.news_of_block hN3⟩) HC0.out (by unfold maxLen; omega) (by omega) hB3.size ?_
    intro v4 X4 ow4 hg4 hk4
    have hB4 := below_grown hB3 ow3 hg4 hB3.size
    refine hK.out _ _ hB4 (fun hHeld => ?_)
    clear hK K
    (try simp only [Act.put, putL])
    refine wpAnyH_ready (rs := [11]) (by kernel_rfl) (by simp) ?_
    refine AllReadyH.cons rfl (fun K hK => ?_) (AllReadyH.nil)
    refine step_app (by rfl) (.tmp 40) (.tmp 43) 56 (by rfl) X0.heap.size 9 i0' (.string ⟨#[]⟩) 1 16 Tryz.underlying56 hi hz0 hz1 hz2 rfl (by decide) v4 ((0 + 0) + 1) (([] ++ []) ++ [.string (S a)]) (by simp [Act.eval]) ow4 none 0 0 [] (by first | (simp [Act.eval]; done) | (simp [Act.eval]; exact hq3.out)) HL2.out (HM2.out _ hB4) HC2.out (by unfold maxLen; omega) (by omega) hB4.size ?_
    intro v5 X5 ow5 hg5 hk5
    have hB5 := below_grown hB4 ow4 hg5 hB4.size
    refine hK.out _ _ hB5 (fun hHeld => ?_)
    clear hK K
    (try simp only [Act.put, putL])
    refine wpAnyH_take (i := 12) (v := ?_) rfl (by kernel_rfl) (by kernel_rfl) (by kernel_rfl) (fun _ _ _ h => h) (Or.inl ⟨by kernel_rfl, ?_⟩) hHeld ?_
    rotate_left
    ·(intro W hSw; (try dsimp only at hSw); go_simp; (try with_reducible rfl))
    (try simp only [Act.put, putL])
    refine wpAnyH_done (by kernel_rfl) ?_ _
    go_wp2
    go_ret
    exact ⟨_, rfl, HFin.out _ _ ow5, hBw.trans (hB5.mono hBw.size)⟩
   ·go_simp
    have hN2 : (X1.alloc (.cells #[.string (S a)] 9)).heap[X1.heap.size]? = some (.cells #[.string (S a)] 9) := Below_heap_new X1 _
    have hB2 := hB1.alloc hB1.size (.cells #[.string (S a)] 9)
    have ow2 := ow0.alloc (.cells #[.string (S a)] 9)
    have hD2 : ((.slice (some ⟨b0, 0, none⟩) 0 0) : Value).ownBlock ≠ some X1.heap.size := fun e => Nat.lt_irrefl _ (own_lt ow0 e)
    refine hK.out _ _ hB2 (fun hHeld => ?_)
    clear hK K
    (try simp only [Act.put, putL])
    obtain ⟨bo, hbo⟩ : ∃ b, X1.heap.size = b := ⟨_, rfl⟩
    rw [hbo] at hN2 hD2 ⊢
    generalize X1.alloc (.cells #[.string (S a)] 9) = X2 at *
    refine wpAnyH_ready (rs := [4]) (by kernel_rfl) (by simp) ?_
    refine AllReadyH.cons rfl (fun K hK => ?_) (AllReadyH.nil)
    refine step_app (by rfl) (.tmp 33) (.tmp 36) 56 (by rfl) X0.heap.size 9 i0' (.string ⟨#[]⟩) 1 16 Tryz.underlying56 hi hz0 hz1 hz2 rfl (by decide) (.slice (some ⟨b0, 0, none⟩) 0 0) 0 [] (by simp [Act.eval]) ow2 none 0 0 [] (by first | (simp [Act.eval]; done) | (simp [Act.eval]; exact hq3.out)) HL1.out (HM1.out _ hB2) HC1.out (by unfold maxLen; omega) (by omega) hB2.size ?_
    intro v3 X3 ow3 hg3 hk3
    have hB3 := below_grown hB2 ow2 hg3 hB2.size
    have hN3 := new_kept hN2 hD2 hg3
    have hD3 : v3.ownBlock ≠ some bo := by
     have h1 := (Array.getElem?_eq_some_iff.1 hN2).1
     rcases hk3 with e | e
     ·rw [e]; exact hD2
     ·rw [e]; intro e; have e2 : X2.heap.size = bo := by injection e
      omega
    refine hK.out _ _ hB3 (fun hHeld => ?_)
    clear hK K
    (try simp only [Act.put, putL])
    refine wpAnyH_ready (rs := [7]) (by kernel_rfl) (by simp) ?_
    refine AllReadyH.cons rfl (fun K hK => ?_) (AllReadyH.nil)
    refine step_app (by rfl) (.tmp 37) (.tmp 39) 56 (by rfl) X0.heap.size 9 i0' (.string ⟨#[]⟩) 1 16 Tryz.underlying56 hi hz0 hz1 hz2 rfl (by decide) v3 (0 + 0) ([] ++ []) (by simp [Act.eval]) ow3 (some ⟨bo, 0, none⟩) 1 1 [.string (S a)] (by first | (simp [Act.eval]; done) | (simp [Act.eval]; exact hq3.out)) rfl (.inr ⟨_, rfl, World.news_of_block hN3⟩) HC0.out (by unfold maxLen; omega) (by omega) hB3.size ?_
    intro v4 X4 ow4 hg4 hk4
    have hB4 := below_grown hB3 ow3 hg4 hB3.size
    refine hK.out _ _ hB4 (fun hHeld => ?_)
    clear hK K
    (try simp only [Act.put, putL])
    refine wpAnyH_ready (rs := [11]) (by kernel_rfl) (by simp) ?_
    refine AllReadyH.cons rfl (fun K hK => ?_) (AllReadyH.nil)
    refine step_app (by rfl) (.tmp 40) (.tmp 43) 56 (by rfl) X0.heap.size 9 i0' (.string ⟨#[]⟩) 1 16 Tryz.underlying56 hi hz0 hz1 hz2 rfl (by decide) v4 ((0 + 0) + 1) (([] ++ []) ++ [.string (S a)]) (by simp [Act.eval]) ow4 none 0 0 [] (by first | (simp [Act.eval]; done) | (simp [Act.eval]; exact hq3.out)) HL2.out (HM2.out _ hB4) HC2.out (by unfold maxLen; omega) (by omega) hB4.size ?_
    intro v5 X5 ow5 hg5 hk5
    have hB5 := below_grown hB4 ow4 hg5 hB4.size
    refine hK.out _ _ hB5 (fun hHeld => ?_)
    clear hK K
    (try simp only [Act.put, putL])
    refine wpAnyH_take (i := 12) (v := ?_) rfl (by kernel_rfl) (by kernel_rfl) (by kernel_rfl) (fun _ _ _ h => h) (Or.inl ⟨by kernel_rfl, ?_⟩) hHeld ?_
    rotate_left
    ·(intro W hSw; (try dsimp only at hSw); go_simp; (try with_reducible rfl))
    (try simp only [Act.put, putL])
    refine wpAnyH_done (by kernel_rfl) ?_ _
    go_wp2
    go_ret
    exact ⟨_, rfl, HFin.out _ _ ow5, hBw.trans (hB5.mono hBw.size)⟩
  ·go_simp
   have hN1 : (X0.alloc (.cells #[.string (S a)] 9)).heap[X0.heap.size]? = some (.cells #[.string (S a)] 9) := Below_heap_new X0 _
   have hB1 := hB0.alloc hB0.size (.cells #[.string (S a)] 9)
   refine hK.out _ _ hB1 (fun hHeld => ?_)
   clear hK K
   (try simp only [Act.put, putL])
   obtain ⟨bo, hbo⟩ : ∃ b, X0.heap.size = b := ⟨_, rfl⟩
   rw [hbo] at hN1 ⊢
   generalize X0.alloc (.cells #[.string (S a)] 9) = X1 at *
   refine wpAnyH_ready (rs := [0]) (by kernel_rfl) (by simp) ?_
   refine AllReadyH.cons rfl (fun K hK => ?_) (AllReadyH.nil)
   go_simp
   obtain ⟨b0, hb0⟩ : ∃ b, X1.heap.size = b := ⟨_, rfl⟩
   have ow0 : (X1.alloc (.cells #[] 9)).ownsRow X0.heap.size 9 1 (.slice (some ⟨b0, 0, none⟩) 0 0) 0 [] := by
    rw [← hb0]; exact World.ownsRow_made (base := X0.heap.size) (size := 1) (e := 9) X1 #[] 0 hB1.size (by decide) rfl
   have hB2 := hB1.alloc hB1.size (.cells #[] 9)
   have hN2 := new_alloc hN1 (.cells #[] 9)
   have hD2 : (Value.slice (some ⟨X1.heap.size, 0, none⟩) 0 0).ownBlock ≠ some bo := fun e => by
    have h1 := (Array.getElem?_eq_some_iff.1 hN1).1
    have e2 : X1.heap.size = bo := by injection e
    omega
   refine hK.out _ _ hB2 (fun hHeld => ?_)
   clear hK K
   (try simp only [Act.put, putL])
   rw [hb0] at hD2 ⊢
   generalize X1.alloc (.cells #[] 9) = X2 at *
   refine wpAnyH_ready (rs := [4]) (by kernel_rfl) (by simp) ?_
   refine AllReadyH.cons rfl (fun K hK => ?_) (AllReadyH.nil)
   refine step_app (by rfl) (.tmp 33) (.tmp 36) 56 (by rfl) X0.heap.size 9 i0' (.string ⟨#[]⟩) 1 16 Tryz.underlying56 hi hz0 hz1 hz2 rfl (by decide) (.slice (some ⟨b0, 0, none⟩) 0 0) 0 [] (by simp [Act.eval]) ow0 none 0 0 [] (by first | (simp [Act.eval]; done) | (simp [Act.eval]; exact hq3.out)) HL1.out (HM1.out _ hB2) HC1.out (by unfold maxLen; omega) (by omega) hB2.size ?_
   intro v3 X3 ow3 hg3 hk3
   have hB3 := below_grown hB2 ow0 hg3 hB2.size
   have hN3 := new_kept hN2 hD2 hg3
   have hD3 : v3.ownBlock ≠ some bo := by
    have h1 := (Array.getElem?_eq_some_iff.1 hN2).1
    rcases hk3 with e | e
    ·rw [e]; exact hD2
    ·rw [e]; intro e; have e2 : X2.heap.size = bo := by injection e
     omega
   refine hK.out _ _ hB3 (fun hHeld => ?_)
   clear hK K
   (try simp only [Act.put, putL])
   refine wpAnyH_ready (rs := [7]) (by kernel_rfl) (by simp) ?_
   refine AllReadyH.cons rfl (fun K hK => ?_) (AllReadyH.nil)
   refine step_app (by rfl) (.tmp 37) (.tmp 39) 56 (by rfl) X0.heap.size 9 i0' (.string ⟨#[]⟩) 1 16 Tryz.underlying56 hi hz0 hz1 hz2 rfl (by decide) v3 (0 + 0) ([] ++ []) (by simp [Act.eval]) ow3 (some ⟨bo, 0, none⟩) 1 1 [.string (S a)] (by first | (simp [Act.eval]; done) | (simp [Act.eval]; exact hq3.out)) rfl (.inr ⟨_, rfl, World.news_of_block hN3⟩) HC0.out (by unfold maxLen; omega) (by omega) hB3.size ?_
   intro v4 X4 ow4 hg4 hk4
   have hB4 := below_grown hB3 ow3 hg4 hB3.size
   refine hK.out _ _ hB4 (fun hHeld => ?_)
   clear hK K
   (try simp only [Act.put, putL])
   refine wpAnyH_ready (rs := [11]) (by kernel_rfl) (by simp) ?_
   refine AllReadyH.cons rfl (fun K hK => ?_) (AllReadyH.nil)
   refine step_app (by rfl) (.tmp 40) (.tmp 43) 56 (by rfl) X0.heap.size 9 i0' (.string ⟨#[]⟩) 1 16 Tryz.underlying56 hi hz0 hz1 hz2 rfl (by decide) v4 ((0 + 0) + 1) (([] ++ []) ++ [.string (S a)]) (by simp [Act.eval]) ow4 none 0 0 [] (by first | (simp [Act.eval]; done) | (simp [Act.eval]; exact hq3.out)) HL2.out (HM2.out _ hB4) HC2.out (by unfold maxLen; omega) (by omega) hB4.size ?_
   intro v5 X5 ow5 hg5 hk5
   have hB5 := below_grown hB4 ow4 hg5 hB4.size
   refine hK.out _ _ hB5 (fun hHeld => ?_)
   clear hK K
   (try simp only [Act.put, putL])
   refine wpAnyH_take (i := 12) (v := ?_) rfl (by kernel_rfl) (by kernel_rfl) (by kernel_rfl) (fun _ _ _ h => h) (Or.inl ⟨by kernel_rfl, ?_⟩) hHeld ?_
   rotate_left
   ·(intro W hSw; (try dsimp only at hSw); go_simp; (try with_reducible rfl))
   (try simp only [Act.put, putL])
   refine wpAnyH_done (by kernel_rfl) ?_ _
   go_wp2
   go_ret
   exact ⟨_, rfl, HFin.out _ _ ow5, hBw.trans (hB5.mono hBw.size)⟩
set_option maxRecDepth 100000 in
set_option maxHeartbeats 8000000 in
theorem radd_some (g off vcap : Nat) (ls : List Nam) (a : Nam) (w : World) (h0 : 0 < ls.length) (hcap : ls.length ≤ vcap) (hvm : vcap ≤ maxLen) (hg : g < w.heap.size) (hc : ∀ j (h : j < ls.length), w.cell? ⟨g, off + j, none⟩ = some (.string (S ls[j]))) (hl : ls.length ≤ 10000000) :
  Calls Tryz.prog 19 #[.slice (some ⟨g, off, none⟩) ls.length vcap, .string (S a)] w (AddPost ls a w) := by
 obtain ⟨i0', hi, hz0, hz1, hz2⟩ := info_of info_nam
 have HC := Lib.hid hc
 have hvm2 : vcap ≤ 9223372036854775807 := Nat.le_trans hvm (by decide)
 have HVm := Lib.hid hvm
 clear hc hvm
 go_enter Tryz.func19, Tryz.ntmps19
 go_upto_block 0 with fail
 go_cut [5] from 6 to 32 (fun x wx => ∃ j : Nat, j ≤ ls.length ∧ x = .int .i64 (j : Int) ∧ (∀ i (h : i < ls.length), i < j → ls[i] < a) ∧ (∀ h : j < ls.length, ¬ ls[j] < a) ∧ wx = w)
 case first =>
  go_wp2_with fail
  go_loopw [5] (fun i wr => AdRel ls a w i wr) (fun i _ => ls.length - (intOf i).toNat)
  case atStart => exact ⟨0, Nat.zero_le _, rfl, fun j _ h => absurd h (Nat.not_lt_zero _), rfl⟩
  case round =>
   obtain ⟨j, hj, rfl, hall, rfl⟩ := hrel
   have HA := Lib.hid hall
   clear hall
   by_cases hlt : j < ls.length
   ·have j0 : (0 : Int) ≤ (j : Int) := by omega
    have j1 : (j : Int) < (ls.length : Int) := by omega
    have c0 := HC.out j hlt
    obtain ⟨x, hx⟩ : ∃ x, ls[j] = x := ⟨_, rfl⟩
    rw [hx] at c0
    have HX := Lib.hid hx
    clear hx
    by_cases hq : x < a
    ·have ql := less_nam x a true (decide_eq_true hq)
     have HQ := Lib.hid hq
     clear hq
     go_wp2_with fail
     go_roundw
     case rel =>
      refine ⟨j + 1, hlt, by go_num, fun i hi hij => ?_, rfl⟩
      by_cases h : i < j
      ·exact HA.out i hi h
      ·have : i = j := by omega
       subst this
       rw [HX.out]; exact HQ.out
     case measure => simp [intOf]; omega
    ·have ql := less_nam x a false (decide_eq_false hq)
     have HQ := Lib.hid hq
     clear hq
     go_wp2_with fail
     go_meet
     case rel => exact ⟨j, hj, rfl, HA.out, fun h => by rw [HX.out]; exact HQ.out, rfl⟩
   ·have q5 : decide (j < ls.length) = false := decide_eq_false hlt
    have HN := Lib.hid hlt
    clear hlt
    go_wp2_with fail
    go_meet
    case rel => exact ⟨j, hj, rfl, HA.out, fun h => absurd h HN.out, rfl⟩
 case rest =>
  obtain ⟨j, hj, rfl, hall, hno, rfl⟩ := hcut
  by_cases hth : ∃ h : j < ls.length, ls[j] = a
  ·obtain ⟨hlt, he⟩ := hth
   have j0 : (0 : Int) ≤ (j : Int) := by omega
   have j1 : (j : Int) < (ls.length : Int) := by omega
   have c0 := HC.out j hlt
   have e1 : ((S a).toList == (S a).toList) = true := beq_self_eq_true _
   rw [he] at c0
   have HF : Hid (addL ls a = ls) := addL_there ls j hlt hall he
   clear hall hno he
   go_wp2_with fail
   go_ret
   exact ⟨.slice (some ⟨g, off, none⟩) ls.length vcap, rfl, by rw [HF.out]; exact .inr ⟨g, off, vcap, rfl, h0, hcap, HVm.out, hg, HC.out⟩, Below.refl _ _⟩
  have hadl := addL_at ls j hj hall (fun h => ⟨hno h, fun he => hth ⟨h, he⟩⟩)
  have htest : (∃ hlt : j < ls.length, decide (j < ls.length) = true ∧ ((S ls[j]).toList == (S a).toList) = false) ∨ decide (j < ls.length) = false := by
   by_cases hlt : j < ls.length
   ·exact .inl ⟨hlt, decide_eq_true hlt, by rw [beq_eq_false_iff_ne, S_toList, S_toList]; exact fun he => hth ⟨hlt, he⟩⟩
   ·exact .inr (decide_eq_false hlt)
  clear hall hno hth
  rcases htest with h | q5
  all_goals
   try
    obtain ⟨hlt, _, e1⟩ := h
    have c0 := HC.out j hlt
    have i0 : (0 : Int) ≤ (j : Int) := by omega
    have i1 : (j : Int) < (ls.length : Int) := by omega
    obtain ⟨x, hx⟩ : ∃ x, ls[j] = x := ⟨_, rfl⟩
    rw [hx] at c0 e1
    have hx := Lib.hid hx
   have j0 : (0 : Int) ≤ (j : Int) := by omega
   have j1 : (j : Int) ≤ (vcap : Int) := by omega
   have j2 : (j : Int) ≤ (ls.length : Int) := by omega
   have j3 : (ls.length : Int) ≤ (vcap : Int) := by omega
   have hst : AddS wc.drew wc.drew := Below.refl wc.drew.heap.size wc.drew
   have hBw : Below wc.heap.size wc wc.drew := (Below.refl _ _).drew
   obtain ⟨q, hq, hqj⟩ : ∃ q, (if vcap = j then some (⟨g, off, none⟩ : Addr) else some ⟨g, off + j, none⟩) = some ⟨g, q, none⟩ ∧ (j < ls.length → q = off + j) := by
    by_cases h : vcap = j
    ·exact ⟨off, by rw [if_pos h], fun h2 => by omega⟩
    ·exact ⟨off + j, by rw [if_neg h], fun _ => rfl⟩
   try
    have hq3 := Lib.hid (hqj hlt).symm
   go_wp2_with fail
   refine wp_region_held_drew (S := (fun W => AddS wc.drew W)) (by kernel_rfl) (hst) (fun hHeld => ?_)
   refine wpAnyH_take (i := 1) (v := ?_) rfl (by kernel_rfl) (by kernel_rfl) (by kernel_rfl) (fun _ _ _ h => h) (Or.inl ⟨by kernel_rfl, ?_⟩) hHeld ?_
   rotate_left
   ·(intro W _; go_simp; (try with_reducible rfl))
   (try simp only [Act.put, putL])
   refine wpAnyH_take (i := 2) (v := ?_) rfl (by kernel_rfl) (by kernel_rfl) (by kernel_rfl) (fun _ _ _ h => h) (Or.inl ⟨by kernel_rfl, ?_⟩) hHeld ?_
   rotate_left
   ·(intro W _; go_simp; (try with_reducible rfl))
   (try simp only [Act.put, putL])
   refine wpAnyH_take (i := 3) (v := ?_) rfl (by kernel_rfl) (by kernel_rfl) (by kernel_rfl) (fun _ _ _ h => h) (Or.inl ⟨by kernel_rfl, ?_⟩) hHeld ?_
   rotate_left
   ·(intro W _; go_simp; (try with_reducible rfl))
   (try simp only [Act.put, putL])
   refine wpAnyH_take (i := 5) (v := ?_) rfl (by kernel_rfl) (by kernel_rfl) (by kernel_rfl) (fun _ _ _ h => h) (Or.inl ⟨by kernel_rfl, ?_⟩) hHeld ?_
   rotate_left
   ·(intro W _; go_simp; (try with_reducible rfl))
   (try simp only [Act.put, putL])
   refine wpAnyH_take (i := 8) (v := ?_) rfl (by kernel_rfl) (by kernel_rfl) (by kernel_rfl) (fun _ _ _ h => h) (Or.inl ⟨by kernel_rfl, ?_⟩) hHeld ?_
   rotate_left
   ·(intro W _; go_simp; (try with_reducible rfl))
   (try simp only [Act.put, putL])
   refine wpAnyH_take (i := 9) (v := ?_) rfl (by kernel_rfl) (by kernel_rfl) (by kernel_rfl) (fun _ _ _ h => h) (Or.inl ⟨by kernel_rfl, ?_⟩) hHeld ?_
   rotate_left
   ·(intro W _; go_simp; (try with_reducible rfl))
   (try simp only [Act.put, putL])
   refine wpAnyH_take (i := 10) (v := ?_) rfl (by kernel_rfl) (by kernel_rfl) (by kernel_rfl) (fun _ _ _ h => h) (Or.inl ⟨by kernel_rfl, ?_⟩) hHeld ?_
   rotate_left
   ·(intro W _; go_simp; (try with_reducible rfl))
   (try simp only [Act.put, putL])
   try rw [hq]
   have hcl : ∀ i (h : i < ls.length), wc.drew.cell? ⟨g, off + i, none⟩ = some (.string (S ls[i])) := fun i h => by
    have := HC.out i h
    simpa using this
   have hgl : g < wc.drew.heap.size := hg
   generalize wc.drew = X0 at *
   have hB0 := Below.refl X0.heap.size X0
   have hadd : ∀ (b x i : Nat), (⟨b, x, none⟩ : Addr).add i = ⟨b, x + i, none⟩ := fun b x i => by unfold Addr.add; split <;> simp_all
   have HC0 : Hid (∀ u ∈ [Value.string (S a)], u.oneCell' = true) := fun u hu => by simp at hu; subst hu; rfl
   have HL1 : Hid ((strs (ls.take j)).length = j * 1) := by show _ = _; rw [strs_length, List.length_take]; omega
   have HL2 : Hid ((strs (ls.drop j)).length = (ls.length - j) * 1) := by show _ = _; rw [strs_length, List.length_drop]; omega
   have HM1 : Hid (∀ W, Below X0.heap.size X0 W → (j = 0 ∨ ∃ ad, (some (⟨g, off, none⟩ : Addr)) = some ad ∧ ∀ i u, (strs (ls.take j))[i]? = some u → W.cell? (ad.add i) = some u)) := fun W hW => .inr ⟨_, rfl, fun i u hu => by
    have hi1 : i < (ls.take j).length := by have := (List.getElem?_eq_some_iff.1 hu).1; rw [strs_length] at this; exact this
    have hi2 : i < ls.length := by rw [List.length_take] at hi1; omega
    rw [hadd, hW.cell (p := ⟨g, off + i, none⟩) hgl, hcl i hi2, ← hu, strs_get _ _ hi1, List.getElem_take]⟩
   have HM2 : Hid (∀ W, Below X0.heap.size X0 W → (ls.length - j = 0 ∨ ∃ ad, (some (⟨g, q, none⟩ : Addr)) = some ad ∧ ∀ i u, (strs (ls.drop j))[i]? = some u → W.cell? (ad.add i) = some u)) := fun W hW => by
    by_cases h : j < ls.length
    ·refine .inr ⟨_, rfl, fun i u hu => ?_⟩
     have hi1 : i < (ls.drop j).length := by have := (List.getElem?_eq_some_iff.1 hu).1; rw [strs_length] at this; exact this
     have hi2 : j + i < ls.length := by rw [List.length_drop] at hi1; omega
     rw [hadd, hqj h, Nat.add_assoc, hW.cell (p := ⟨g, off + (j + i), none⟩) hgl, hcl (j + i) hi2, ← hu, strs_get _ _ hi1, List.getElem_drop]
    ·exact .inl (by omega)
   have hone : ∀ l : List Nam, ∀ u ∈ strs l, u.oneCell' = true := fun l u hu => by
    obtain ⟨x, _, rfl⟩ := List.mem_map.1 hu; rfl
   have HC1 : Hid (∀ u ∈ strs (ls.take j), u.oneCell' = true) := hone _
   have HC2 : Hid (∀ u ∈ strs (ls.drop j), u.oneCell' = true) := hone _
   have HFin : Hid (∀ (W : World) (v : Value), W.ownsRow X0.heap.size 9 1 v (((0 + j) + 1) + (ls.length - j)) ((([] ++ strs (ls.take j)) ++ [.string (S a)]) ++ strs (ls.drop j)) → NamesAt W v (addL ls a)) := fun W v h => by
    rw [hadl]
    refine NamesAt.of_owns (base := X0.heap.size) (e := 9) (n := ((0 + j) + 1) + (ls.length - j)) ?_ (by simp; omega)
    have e : strs (ls.take j ++ [a] ++ ls.drop j) = (([] ++ strs (ls.take j)) ++ [.string (S a)]) ++ strs (ls.drop j) := by simp [strs]
    rw [e]; exact h
   clear hcl hadd hadl hone hq hqj HC
   refine wpAnyH_ready (rs := [0, 6]) (by kernel_rfl) (by simp) ?_
   refine AllReadyH.cons rfl (fun K hK => ?_) (AllReadyH.cons rfl (fun K hK => ?_) (AllReadyH.nil))
   ·go_simp
    obtain ⟨b0, hb0⟩ : ∃ b, X0.heap.size = b := ⟨_, rfl⟩
    have ow0 : (X0.alloc (.cells #[] 9)).ownsRow X0.heap.size 9 1 (.slice (some ⟨b0, 0, none⟩) 0 0) 0 [] := by
     rw [← hb0]; exact World.ownsRow_made (base := X0.heap.size) (size := 1) (e := 9) X0 #[] 0 hB0.size (by decide) rfl
    have hB1 := hB0.alloc hB0.size (.cells #[] 9)
    refine hK.out _ _ hB1 (fun hHeld => ?_)
    clear hK K
    (try simp only [Act.put, putL])
    rw [hb0]
    generalize X0.alloc (.cells #[] 9) = X1 at *
    refine wpAnyH_ready (rs := [4, 6]) (by kernel_rfl) (by simp) ?_
    refine AllReadyH.cons rfl (fun K hK => ?_) (AllReadyH.cons rfl (fun K hK => ?_) (AllReadyH.nil))
    ·refine step_app (by rfl) (.tmp 33) (.tmp 36) 56 (by rfl) X0.heap.size 9 i0' (.string ⟨#[]⟩) 1 16 Tryz.underlying56 hi hz0 hz1 hz2 rfl (by decide) (.slice (some ⟨b0, 0, none⟩) 0 0) 0 [] (by simp [Act.eval]) ow0 (some ⟨g, off, none⟩) j vcap (strs (ls.take j)) (by first | (simp [Act.eval]; done) | (simp [Act.eval]; exact hq3.out)) HL1.out (HM1.out _ hB1) HC1.out (by unfold maxLen; omega) (by omega) hB1.size ?_
     intro v2 X2 ow2 hg2 hk2
     have hB2 := below_grown hB1 ow0 hg2 hB1.size
     refine hK.out _ _ hB2 (fun hHeld => ?_)
     clear hK K
     (try simp only [Act.put, putL])
     refine wpAnyH_ready (rs := [6]) (by kernel_rfl) (by simp) ?_
     refine AllReadyH.cons rfl (fun K hK => ?_) (AllReadyH.nil)
     go_simp
     have hN3 : (X2.alloc (.cells #[.string (S a)] 9)).heap[X2.heap.size]? = some (.cells #[.string (S a)] 9) := Below_heap_new X2 _
     have hB3 := hB2.alloc hB2.size (.cells #[.string (S a)] 9)
     have ow3 := ow2.alloc (.cells #[.string (S a)] 9)
     have hD3 : (v2 : Value).ownBlock ≠ some X2.heap.size := fun e => Nat.lt_irrefl _ (own_lt ow2 e)
     refine hK.out _ _ hB3 (fun hHeld => ?_)
     clear hK K
     (try simp only [Act.put, putL])
     obtain ⟨bo, hbo⟩ : ∃ b, X2.heap.size = b := ⟨_, rfl⟩
     rw [hbo] at hN3 hD3 ⊢
     generalize X2.alloc (.cells #[.string (S a)] 9) = X3 at *
     refine wpAnyH_ready (rs := [7]) (by kernel_rfl) (by simp) ?_
     refine AllReadyH.cons rfl (fun K hK => ?_) (AllReadyH.nil)
     refine step_app (by rfl) (.tmp 37) (.tmp 39) 56 (by rfl) X0.heap.size 9 i0' (.string ⟨#[]⟩) 1 16 Tryz.underlying56 hi hz0 hz1 hz2 rfl (by decide) v2 (0 + j) ([] ++ (strs (ls.take j))) (by simp [Act.eval]) ow3 (some ⟨bo, 0, none⟩) 1 1 [.string (S a)] (by first | (simp [Act.eval]; done) | (simp [Act.eval]; exact hq3.out)) rfl (.inr ⟨_, rfl, World.news_of_block hN3⟩) HC0.out (by unfold maxLen; omega) (by omega) hB3.size ?_
     intro v4 X4 ow4 hg4 hk4
     have hB4 := below_grown hB3 ow3 hg4 hB3.size
     refine hK.out _ _ hB4 (fun hHeld => ?_)
     clear hK K
     (try simp only [Act.put, putL])
     refine wpAnyH_ready (rs := [11]) (by kernel_rfl) (by simp) ?_
     refine AllReadyH.cons rfl (fun K hK => ?_) (AllReadyH.nil)
     refine step_app (by rfl) (.tmp 40) (.tmp 43) 56 (by rfl) X0.heap.size 9 i0' (.string ⟨#[]⟩) 1 16 Tryz.underlying56 hi hz0 hz1 hz2 rfl (by decide) v4 ((0 + j) + 1) (([] ++ (strs (ls.take j))) ++ [.string (S a)]) (by simp [Act.eval]) ow4 (some ⟨g, q, none⟩) (ls.length - j) (vcap - j) (strs (ls.drop j)) (by first | (simp [Act.eval]; done) | (simp [Act.eval]; exact hq3.out)) HL2.out (HM2.out _ hB4) HC2.out (by unfold maxLen; omega) (by omega) hB4.size ?_
     intro v5 X5 ow5 hg5 hk5
     have hB5 := below_grown hB4 ow4 hg5 hB4.size
     refine hK.out _ _ hB5 (fun hHeld => ?_)
     clear hK K
     (try simp only [Act.put, putL])
     refine wpAnyH_take (i := 12) (v := ?_) rfl (by kernel_rfl) (by kernel_rfl) (by kernel_rfl) (fun _ _ _ h => h) (Or.inl ⟨by kernel_rfl, ?_⟩) hHeld ?_
     rotate_left
     ·(intro W hSw; (try dsimp only at hSw); go_simp; (try with_reducible rfl))
     (try simp only [Act.put, putL])
     refine wpAnyH_done (by kernel_rfl) ?_ _
     go_wp2
     go_ret
     exact ⟨_, rfl, HFin.out _ _ ow5, hBw.trans (hB5.mono hBw.size)⟩
    ·go_simp
     have hN2 : (X1.alloc (.cells #[.string (S a)] 9)).heap[X1.heap.size]? = some (.cells #[.string (S a)] 9) := Below_heap_new X1 _
     have hB2 := hB1.alloc hB1.size (.cells #[.string (S a)] 9)
     have ow2 := ow0.alloc (.cells #[.string (S a)] 9)
     have hD2 : ((.slice (some ⟨b0, 0, none⟩) 0 0) : Value).ownBlock ≠ some X1.heap.size := fun e => Nat.lt_irrefl _ (own_lt ow0 e)
     refine hK.out _ _ hB2 (fun hHeld => ?_)
     clear hK K
     (try simp only [Act.put, putL])
     obtain ⟨bo, hbo⟩ : ∃ b, X1.heap.size = b := ⟨_, rfl⟩
     rw [hbo] at hN2 hD2 ⊢
     generalize X1.alloc (.cells #[.string (S a)] 9) = X2 at *
     refine wpAnyH_ready (rs := [4]) (by kernel_rfl) (by simp) ?_
     refine AllReadyH.cons rfl (fun K hK => ?_) (AllReadyH.nil)
     refine step_app (by rfl) (.tmp 33) (.tmp 36) 56 (by rfl) X0.heap.size 9 i0' (.string ⟨#[]⟩) 1 16 Tryz.underlying56 hi hz0 hz1 hz2 rfl (by decide) (.slice (some ⟨b0, 0, none⟩) 0 0) 0 [] (by simp [Act.eval]) ow2 (some ⟨g, off, none⟩) j vcap (strs (ls.take j)) (by first | (simp [Act.eval]; done) | (simp [Act.eval]; exact hq3.out)) HL1.out (HM1.out _ hB2) HC1.out (by unfold maxLen; omega) (by omega) hB2.size ?_
     intro v3 X3 ow3 hg3 hk3
     have hB3 := below_grown hB2 ow2 hg3 hB2.size
     have hN3 := new_kept hN2 hD2 hg3
     have hD3 : v3.ownBlock ≠ some bo := by
      have h1 := (Array.getElem?_eq_some_iff.1 hN2).1
      rcases hk3 with e | e
      ·rw [e]; exact hD2
      ·rw [e]; intro e; have e2 : X2.heap.size = bo := by injection e
       omega
     refine hK.out _ _ hB3 (fun hHeld => ?_)
     clear hK K
     (try simp only [Act.put, putL])
     refine wpAnyH_ready (rs := [7]) (by kernel_rfl) (by simp) ?_
     refine AllReadyH.cons rfl (fun K hK => ?_) (AllReadyH.nil)
     refine step_app (by rfl) (.tmp 37) (.tmp 39) 56 (by rfl) X0.heap.size 9 i0' (.string ⟨#[]⟩) 1 16 Tryz.underlying56 hi hz0 hz1 hz2 rfl (by decide) v3 (0 + j) ([] ++ (strs (ls.take j))) (by simp [Act.eval]) ow3 (some ⟨bo, 0, none⟩) 1 1 [.string (S a)] (by first | (simp [Act.eval]; done) | (simp [Act.eval]; exact hq3.out)) rfl (.inr ⟨_, rfl, World.news_of_block hN3⟩) HC0.out (by unfold maxLen; omega) (by omega) hB3.size ?_
     intro v4 X4 ow4 hg4 hk4
     have hB4 := below_grown hB3 ow3 hg4 hB3.size
     refine hK.out _ _ hB4 (fun hHeld => ?_)
     clear hK K
     (try simp only [Act.put, putL])
     refine wpAnyH_ready (rs := [11]) (by kernel_rfl) (by simp) ?_
     refine AllReadyH.cons rfl (fun K hK => ?_) (AllReadyH.nil)
     refine step_app (by rfl) (.tmp 40) (.tmp 43) 56 (by rfl) X0.heap.size 9 i0' (.string ⟨#[]⟩) 1 16 Tryz.underlying56 hi hz0 hz1 hz2 rfl (by decide) v4 ((0 + j) + 1) (([] ++ (strs (ls.take j))) ++ [.string (S a)]) (by simp [Act.eval]) ow4 (some ⟨g, q, none⟩) (ls.length - j) (vcap - j) (strs (ls.drop j)) (by first | (simp [Act.eval]; done) | (simp [Act.eval]; exact hq3.out)) HL2.out (HM2.out _ hB4) HC2.out (by unfold maxLen; omega) (by omega) hB4.size ?_
     intro v5 X5 ow5 hg5 hk5
     have hB5 := below_grown hB4 ow4 hg5 hB4.size
     refine hK.out _ _ hB5 (fun hHeld => ?_)
     clear hK K
     (try simp only [Act.put, putL])
     refine wpAnyH_take (i := 12) (v := ?_) rfl (by kernel_rfl) (by kernel_rfl) (by kernel_rfl) (fun _ _ _ h => h) (Or.inl ⟨by kernel_rfl, ?_⟩) hHeld ?_
     rotate_left
     ·(intro W hSw; (try dsimp only at hSw); go_simp; (try with_reducible rfl))
     (try simp only [Act.put, putL])
     refine wpAnyH_done (by kernel_rfl) ?_ _
     go_wp2
     go_ret
     exact ⟨_, rfl, HFin.out _ _ ow5, hBw.trans (hB5.mono hBw.size)⟩
   ·go_simp
    have hN1 : (X0.alloc (.cells #[.string (S a)] 9)).heap[X0.heap.size]? = some (.cells #[.string (S a)] 9) := Below_heap_new X0 _
    have hB1 := hB0.alloc hB0.size (.cells #[.string (S a)] 9)
    refine hK.out _ _ hB1 (fun hHeld => ?_)
    clear hK K
    (try simp only [Act.put, putL])
    obtain ⟨bo, hbo⟩ : ∃ b, X0.heap.size = b := ⟨_, rfl⟩
    rw [hbo] at hN1 ⊢
    generalize X0.alloc (.cells #[.string (S a)] 9) = X1 at *
    refine wpAnyH_ready (rs := [0]) (by kernel_rfl) (by simp) ?_
    refine AllReadyH.cons rfl (fun K hK => ?_) (AllReadyH.nil)
    go_simp
    obtain ⟨b0, hb0⟩ : ∃ b, X1.heap.size = b := ⟨_, rfl⟩
    have ow0 : (X1.alloc (.cells #[] 9)).ownsRow X0.heap.size 9 1 (.slice (some ⟨b0, 0, none⟩) 0 0) 0 [] := by
     rw [← hb0]; exact World.ownsRow_made (base := X0.heap.size) (size := 1) (e := 9) X1 #[] 0 hB1.size (by decide) rfl
    have hB2 := hB1.alloc hB1.size (.cells #[] 9)
    have hN2 := new_alloc hN1 (.cells #[] 9)
    have hD2 : (Value.slice (some ⟨X1.heap.size, 0, none⟩) 0 0).ownBlock ≠ some bo := fun e => by
     have h1 := (Array.getElem?_eq_some_iff.1 hN1).1
     have e2 : X1.heap.size = bo := by injection e
     omega
    refine hK.out _ _ hB2 (fun hHeld => ?_)
    clear hK K
    (try simp only [Act.put, putL])
    rw [hb0] at hD2 ⊢
    generalize X1.alloc (.cells #[] 9) = X2 at *
    refine wpAnyH_ready (rs := [4]) (by kernel_rfl) (by simp) ?_
    refine AllReadyH.cons rfl (fun K hK => ?_) (AllReadyH.nil)
    refine step_app (by rfl) (.tmp 33) (.tmp 36) 56 (by rfl) X0.heap.size 9 i0' (.string ⟨#[]⟩) 1 16 Tryz.underlying56 hi hz0 hz1 hz2 rfl (by decide) (.slice (some ⟨b0, 0, none⟩) 0 0) 0 [] (by simp [Act.eval]) ow0 (some ⟨g, off, none⟩) j vcap (strs (ls.take j)) (by first | (simp [Act.eval]; done) | (simp [Act.eval]; exact hq3.out)) HL1.out (HM1.out _ hB2) HC1.out (by unfold maxLen; omega) (by omega) hB2.size ?_
    intro v3 X3 ow3 hg3 hk3
    have hB3 := below_grown hB2 ow0 hg3 hB2.size
    have hN3 := new_kept hN2 hD2 hg3
    have hD3 : v3.ownBlock ≠ some bo := by
     have h1 := (Array.getElem?_eq_some_iff.1 hN2).1
     rcases hk3 with e | e
     ·rw [e]; exact hD2
     ·rw [e]; intro e; have e2 : X2.heap.size = bo := by injection e
      omega
    refine hK.out _ _ hB3 (fun hHeld => ?_)
    clear hK K
    (try simp only [Act.put, putL])
    refine wpAnyH_ready (rs := [7]) (by kernel_rfl) (by simp) ?_
    refine AllReadyH.cons rfl (fun K hK => ?_) (AllReadyH.nil)
    refine step_app (by rfl) (.tmp 37) (.tmp 39) 56 (by rfl) X0.heap.size 9 i0' (.string ⟨#[]⟩) 1 16 Tryz.underlying56 hi hz0 hz1 hz2 rfl (by decide) v3 (0 + j) ([] ++ (strs (ls.take j))) (by simp [Act.eval]) ow3 (some ⟨bo, 0, none⟩) 1 1 [.string (S a)] (by first | (simp [Act.eval]; done) | (simp [Act.eval]; exact hq3.out)) rfl (.inr ⟨_, rfl, World.news_of_block hN3⟩) HC0.out (by unfold maxLen; omega) (by omega) hB3.size ?_
    intro v4 X4 ow4 hg4 hk4
    have hB4 := below_grown hB3 ow3 hg4 hB3.size
    refine hK.out _ _ hB4 (fun hHeld => ?_)
    clear hK K
    (try simp only [Act.put, putL])
    refine wpAnyH_ready (rs := [11]) (by kernel_rfl) (by simp) ?_
    refine AllReadyH.cons rfl (fun K hK => ?_) (AllReadyH.nil)
    refine step_app (by rfl) (.tmp 40) (.tmp 43) 56 (by rfl) X0.heap.size 9 i0' (.string ⟨#[]⟩) 1 16 Tryz.underlying56 hi hz0 hz1 hz2 rfl (by decide) v4 ((0 + j) + 1) (([] ++ (strs (ls.take j))) ++ [.string (S a)]) (by simp [Act.eval]) ow4 (some ⟨g, q, none⟩) (ls.length - j) (vcap - j) (strs (ls.drop j)) (by first | (simp [Act.eval]; done) | (simp [Act.eval]; exact hq3.out)) HL2.out (HM2.out _ hB4) HC2.out (by unfold maxLen; omega) (by omega) hB4.size ?_
    intro v5 X5 ow5 hg5 hk5
    have hB5 := below_grown hB4 ow4 hg5 hB4.size
    refine hK.out _ _ hB5 (fun hHeld => ?_)
    clear hK K
    (try simp only [Act.put, putL])
    refine wpAnyH_take (i := 12) (v := ?_) rfl (by kernel_rfl) (by kernel_rfl) (by kernel_rfl) (fun _ _ _ h => h) (Or.inl ⟨by kernel_rfl, ?_⟩) hHeld ?_
    rotate_left
    ·(intro W hSw; (try dsimp only at hSw); go_simp; (try with_reducible rfl))
    (try simp only [Act.put, putL])
    refine wpAnyH_done (by kernel_rfl) ?_ _
    go_wp2
    go_ret
    exact ⟨_, rfl, HFin.out _ _ ow5, hBw.trans (hB5.mono hBw.size)⟩
theorem radd_any (v : Value) (ls : List Nam) (a : Nam) (w : World) (h : NamesAt w v ls) (hl : ls.length ≤ 10000000) : Calls Tryz.prog 19 #[v, .string (S a)] w (AddPost ls a w) := by
 rcases h with ⟨rfl, rfl⟩ | ⟨b, off, cap, rfl, h2, h3, h4, h5, h6⟩
 ·exact radd_nil a w
 ·exact radd_some b off cap ls a w h2 h3 h4 h5 h6 hl
end Go.Proofs.YtbgimpeklblcjaaGreatDoor

namespace Go
open Go.RowKit
theorem OffIn.of_ok {w : World} {o : DOff} (h : o.ok w) : OffIn (fun g => g < w.heap.size) w o :=
 ⟨h, fun hn _ hv => Row.lt h.1.1 (List.length_pos_iff.2 hn) hv, fun x hx hn _ hv => (h.1.2 x hx).lt hn hv⟩
theorem pack_step2 {w9 w2 w3 : World} {v v' : Value} {qs : List DPack} {q : DPack} (hq : ∀ q ∈ qs, PackIn (fun g => v.ownBlock ≠ some g) w9 q)
  (h1 : Below w9.heap.size w9 w2) (hnew : PackIn (fun g => v.ownBlock ≠ some g) w2 q) (hg : w2.grownBy w3 v.ownBlock) (hk : v'.ownBlock = v.ownBlock ∨ v'.ownBlock = some w2.heap.size) :
  ∀ x ∈ qs ++ [q], PackIn (fun g => v'.ownBlock ≠ some g) w3 x := by
 have key : ∀ x, PackIn (fun g => v.ownBlock ≠ some g ∧ v'.ownBlock ≠ some g) w2 x → PackIn (fun g => v'.ownBlock ≠ some g) w3 x := fun x h => (h.grew hg (fun g hA => hA.1)).imp (fun g _ hA => hA.2)
 have hv8 : ∀ g, g < w2.heap.size → v.ownBlock ≠ some g → v'.ownBlock ≠ some g := fun g hlt hne => by
  rcases hk with h | h
  ·rw [h]; exact hne
  ·rw [h]; intro e; injection e with e; omega
 intro x hx
 rcases List.mem_append.1 hx with hx | hx
 ·exact key x (((hq x hx).below h1).imp (fun g hlt hA => ⟨hA, hv8 g hlt hA⟩))
 ·simp at hx; subst hx
  exact key x (hnew.imp (fun g hlt hA => ⟨hA, hv8 g hlt hA⟩))
theorem findP_offs {w : World} {pk : Value} {ps : List DPack} (h : Packs w pk ps) (nm : ByteArray) : Offs w (findP ps nm).ov (findP ps nm).os := by
 unfold findP
 rcases hf : ps.find? (fun p => decide (p.name = nm)) with _ | p
 all_goals rw [hf]
 ·exact ⟨⟨rfl, Nat.zero_le _, .inl ⟨_, _, rfl, rfl, fun _ => rfl⟩⟩, fun o ho => by cases ho⟩
 ·exact (h.2 p (List.mem_of_find?_eq_some hf)).1
theorem findP_few {ps : List DPack} {nm : ByteArray} (h : ∀ p ∈ ps, p.os.length ≤ 1000000 ∧ ∀ o ∈ p.os, o.v.p.size ≤ 300) : (findP ps nm).os.length ≤ 1000000 ∧ ∀ o ∈ (findP ps nm).os, o.v.p.size ≤ 300 := by
 unfold findP
 rcases hf : ps.find? (fun p => decide (p.name = nm)) with _ | p
 all_goals rw [hf]
 ·exact ⟨Nat.zero_le _, fun o ho => by cases ho⟩
 ·exact h p (List.mem_of_find?_eq_some hf)
theorem up_nodup {ls : List Nam} (h : ls.Pairwise (· < ·)) : ls.Nodup := h.imp (fun {a b} hab e => by subst e; exact List.lt_irrefl a hab)
theorem eq_of_sub {α : Type} [DecidableEq α] {a b : List α} (ha : a.Nodup) (hs : ∀ x ∈ a, x ∈ b) (hl : b.length = a.length) : ∀ x ∈ b, x ∈ a := fun x hx => by
 by_cases h : x ∈ a
 ·exact h
 ·have := nodup_len (us := b) (xs0 := x :: a) (List.nodup_cons.2 ⟨h, ha⟩) (fun y hy => by
   rcases List.mem_cons.1 hy with rfl | hy
   ·exact hx
   ·exact hs y hy)
  simp at this; omega
theorem sub_lt {α : Type} {a b : List α} (ha : a.Nodup) (hs : ∀ x ∈ a, x ∈ b) (hl : b.length ≠ a.length) : a.length < b.length := by
 have := nodup_len (us := b) (xs0 := a) ha hs
 omega
theorem NamesAt.at' {w w' : World} {a : Option Addr} {cap : Nat} {ls : List Nam} (h : NamesAt w (.slice a ls.length cap) ls) (hb : Below w.heap.size w w') {k : Nat} (hk : k < ls.length) :
  ∃ b off, a = some ⟨b, off, none⟩ ∧ b < w.heap.size ∧ w'.cell? ⟨b, off + k, none⟩ = some (.string (S ls[k])) := by
 rcases h with ⟨_, rfl⟩ | ⟨b, off, cap', h1, h2, h3, h4, h5, h6⟩
 ·cases hk
 ·injection h1 with h1
  exact ⟨b, off, h1, h5, by rw [hb.cell (p := ⟨b, off + k, none⟩) h5]; exact h6 k hk⟩
def lenV : Value → Nat
 | .slice _ n _ => n
 | _ => 0
/-- what the region looks at -/
def RnS (b o : Nat) (A : ByteArray) (w0 W : World) : Prop := W.cell? ⟨b, o, none⟩ = some (.string A) ∧ Below w0.heap.size w0 W
theorem RnS.on {b o : Nat} {A : ByteArray} {w0 W W' : World} (h : RnS b o A w0 W) (hb : Below W.heap.size W W') : RnS b o A w0 W' := ⟨cell_on h.1 hb, below_then h.2 hb⟩
end Go
namespace Go.Proofs.YtbgimpeklblcjaaGreatDoor
open Go.RowKit
theorem TabCtx.few_os2 {lock : List Pik} {needs : List (Want × Value)} {ps : List DPack} {pk lk nv : Value} {w0 : World} (C : TabCtx lock needs ps pk lk nv w0) {nm : ByteArray} {out : List DOff} (h : ChoiceIs lock nm needs (findP ps nm).os out) : out.length ≤ 1000000 :=
 Nat.le_trans h.len (findP_few (nm := nm) C.pkos).1
/-- the reference's Offers of what Find finds -/
theorem rpick_any {lock : List Pik} {needs : List (Want × Value)} {ps : List DPack} {pk lk nv : Value} {w : World} (C : TabCtx lock needs ps pk lk nv w) (nm : ByteArray) (W : World) (hW : Below w.heap.size w W) :
  Calls Tryz.prog 20 #[.agg #[.string (findP ps nm).name, (findP ps nm).ov], lk, nv] W (OffersPost lock nm needs (findP ps nm).os W) := by
 have h := findP_few (nm := nm) C.pkos
 rw [findP_name]
 exact roffers_any nm _ _ _ lock _ needs W (findP_offs (C.packs.below hW (Nat.le_refl _)) nm) (C.piks.below hW (Nat.le_refl _)) (C.wants.below hW (Nat.le_refl _)) h.1 h.2 C.nds
def R1Rel (needs : List (Want × Value)) (w : World) (v i : Value) (wr : World) : Prop :=
 ∃ (k : Nat) (ls : List Nam), k ≤ needs.length ∧ i = .int .i64 (k : Int) ∧ NamesAt wr v ls ∧ ls.Pairwise (· < ·) ∧ (∀ x, x ∈ ls ↔ x ∈ (needs.take k).map wname) ∧ ls.length ≤ k ∧ Below w.heap.size w wr
/-- names that are gathered -/
structure GotN (lock : List Pik) (needs : List (Want × Value)) (ps : List DPack) (w wr : World) (v : Value) (ls : List Nam) : Prop where
 at_ : NamesAt wr v ls
 up : ls.Pairwise (· < ·)
 asked : ∀ x ∈ needs.map wname, x ∈ ls
 in_ : ∀ x ∈ ls, ReachedN lock needs ps x
 all : ∀ x ∈ ls, x ∈ allNames needs ps
 below : Below w.heap.size w wr
theorem GotN.on {lock : List Pik} {needs : List (Want × Value)} {ps : List DPack} {w wr w' : World} {v : Value} {ls : List Nam} (h : GotN lock needs ps w wr v ls) (hb : Below wr.heap.size wr w') : GotN lock needs ps w w' v ls :=
 ⟨h.at_.below hb (Nat.le_refl _), h.up, h.asked, h.in_, h.all, below_then h.below hb⟩
theorem GotN.add {lock : List Pik} {needs : List (Want × Value)} {ps : List DPack} {w wr w' : World} {v v' : Value} {ls : List Nam} {x d : Nam} (h : GotN lock needs ps w wr v ls) (hx : ReachedN lock needs ps x) (he : EdgeN lock needs ps x d) (hn : NamesAt w' v' (addL ls d)) (hb : Below wr.heap.size wr w') : GotN lock needs ps w w' v' (addL ls d) := by
 refine ⟨hn, addL_up _ _ h.up, fun y hy => (addL_mem d ls y).2 (.inr (h.asked y hy)), fun y hy => ?_, fun y hy => ?_, below_then h.below hb⟩
 ·rcases (addL_mem d ls y).1 hy with rfl | hy
  ·obtain ⟨s, hs, hg⟩ := hx
   exact ⟨s, hs, .tail hg he⟩
  ·exact h.in_ y hy
 ·rcases (addL_mem d ls y).1 hy with rfl | hy
  ·exact edge_all he
  ·exact h.all y hy
theorem GotN.len {lock : List Pik} {needs : List (Want × Value)} {ps : List DPack} {w wr : World} {v : Value} {ls : List Nam} (h : GotN lock needs ps w wr v ls) : ls.length ≤ (allNames needs ps).length := nodup_len (up_nodup h.up) h.all
def R2Rel (lock : List Pik) (needs : List (Want × Value)) (ps : List DPack) (w : World) (v : Value) (wr : World) : Prop := ∃ ls, GotN lock needs ps w wr v ls
def R3Rel (lock : List Pik) (needs : List (Want × Value)) (ps : List DPack) (ls : List Nam) (w w7 : World) (v i : Value) (wr : World) : Prop :=
 ∃ (k : Nat) (ls' : List Nam), k ≤ ls.length ∧ i = .int .i64 (k : Int) ∧ GotN lock needs ps w wr v ls' ∧ (∀ x ∈ ls, x ∈ ls') ∧ (∀ x ∈ ls.take k, ∀ d, EdgeN lock needs ps x d → d ∈ ls') ∧ Below w7.heap.size w7 wr
def R4Rel (lock : List Pik) (needs : List (Want × Value)) (ps : List DPack) (ls0 : List Nam) (out : List DOff) (w w7 : World) (v i : Value) (wr : World) : Prop :=
 ∃ (k : Nat) (ls' : List Nam), k ≤ out.length ∧ i = .int .i64 (k : Int) ∧ GotN lock needs ps w wr v ls' ∧ (∀ x ∈ ls0, x ∈ ls') ∧ (∀ o ∈ out.take k, ∀ n ∈ o.ns, wname n ∈ ls') ∧ Below w7.heap.size w7 wr
def R5Rel (lock : List Pik) (needs : List (Want × Value)) (ps : List DPack) (ls0 : List Nam) (ns : List (Want × Value)) (w w7 : World) (v i : Value) (wr : World) : Prop :=
 ∃ (k : Nat) (ls' : List Nam), k ≤ ns.length ∧ i = .int .i64 (k : Int) ∧ GotN lock needs ps w wr v ls' ∧ (∀ x ∈ ls0, x ∈ ls') ∧ (∀ n ∈ ns.take k, wname n ∈ ls') ∧ Below w7.heap.size w7 wr
def R6Rel (lock : List Pik) (needs : List (Want × Value)) (ps : List DPack) (ls : List Nam) (w11 : World) (v i : Value) (wr : World) : Prop :=
 ∃ (k : Nat) (qs : List DPack), k ≤ ls.length ∧ i = .int .i64 (k : Int) ∧ wr.ownsRow w11.heap.size 52 2 v qs.length (qs.flatMap DPack.cells) ∧ Below w11.heap.size w11 wr ∧ qs.map pname = ls.take k ∧
  (∀ q ∈ qs, PackIn (fun g => v.ownBlock ≠ some g) wr q) ∧ ∀ q ∈ qs, ChoiceIs lock q.name needs (findP ps q.name).os q.os
set_option maxRecDepth 100000 in
set_option maxHeartbeats 8000000 in
theorem rtable_any {lock : List Pik} {needs : List (Want × Value)} {ps : List DPack} {pk lk nv : Value} {w : World} (C : TabCtx lock needs ps pk lk nv w) :
  Calls Tryz.prog 9 #[pk, lk, nv] w (TablePost lock needs ps w) := by
 obtain ⟨hmx, a2, cap2, rfl⟩ := C.wants.len
 have hmx2 : needs.length ≤ 9223372036854775807 := Nat.le_trans hmx (by decide)
 obtain ⟨_, a1, cap1, rfl⟩ := C.packs.len
 obtain ⟨a0, cap0, rfl⟩ := C.piks.len
 have HC := Lib.hid C
 have hnl : needs.length ≤ 1000000 := by have := C.few; unfold allNames at this; rw [List.length_append, List.length_map] at this; omega
 clear C hmx
 go_enter Tryz.func9, Tryz.ntmps9
 go_wp2_with fail
 go_loopw [7, 8] (fun v i wr => R1Rel needs w v i wr) (fun _ i _ => needs.length - (intOf i).toNat)
 case atStart => exact ⟨0, [], Nat.zero_le _, rfl, NamesAt.nil _, List.Pairwise.nil, by simp, Nat.le_refl _, Below.refl _ _⟩
 case round =>
  obtain ⟨k, ls, hk, rfl, hna, hup, hmm, hll, hb⟩ := hrel
  obtain ⟨va, vc, rfl⟩ := hna.shape
  have HNa := Lib.hid (⟨hna, hup, hmm, hll, hb⟩ : _ ∧ _ ∧ _ ∧ _ ∧ _)
  by_cases hlt : k < needs.length
  ·have i0 : (0 : Int) ≤ (k : Int) := by omega
   have i1 : (k : Int) < (needs.length : Int) := by omega
   have HT := Lib.hid (List.take_succ_eq_append_getElem hlt)
   obtain ⟨bn, on, rfl, hbn, d0, d1⟩ := HC.out.wants.at' hb hlt
   obtain ⟨x, hxe⟩ : ∃ x, needs[k] = x := ⟨_, rfl⟩
   rw [hxe] at d0 d1 HT
   have HCa := Lib.hid (radd_any _ ls x.1.name wr hna (by omega))
   clear hna hup hmm hb hxe
   go_wp2_with fail
   refine HCa.out.mono ?_
   rintro e w8 ⟨v8, rfl, hn8, hb8⟩
   obtain ⟨va8, vc8, rfl⟩ := hn8.shape
   clear d0 d1
   go_wp2_with fail
   go_roundw
   case rel =>
    obtain ⟨_, hup, hmm, hll, hb⟩ := HNa.out
    refine ⟨k + 1, addL ls x.1.name, hlt, by go_num, hn8, addL_up _ _ hup, fun y => ?_, by have := addL_len x.1.name ls; omega, below_then hb hb8⟩
    rw [addL_mem, HT.out, List.map_append, List.mem_append, hmm]
    constructor
    ·rintro (rfl | h)
     ·exact .inr (by simp [wname])
     ·exact .inl h
    ·rintro (h | h)
     ·exact .inr h
     ·exact .inl (by simpa [wname] using h)
   case measure => simp [intOf]; omega
  ·have q5 : decide (k < needs.length) = false := decide_eq_false hlt
   have hke := Nat.le_of_not_lt hlt
   have HS : Hid (GotN lock needs ps w wr (.slice va ls.length vc) ls) := by
    have h := hmm
    rw [List.take_of_length_le hke] at h
    refine ⟨hna, hup, fun x hx => (h x).2 hx, fun x hx => ⟨x, (h x).1 hx, .refl _⟩, fun x hx => List.mem_append_left _ ((h x).1 hx), hb⟩
   clear hlt hke hup hmm hna hb HNa hll
   go_wp2_with fail
   go_loopw [7] (fun v wr => R2Rel lock needs ps w v wr) (fun v _ => (allNames needs ps).length - lenV v)
   case atStart => exact ⟨ls, HS.out⟩
   case round =>
    obtain ⟨ls, hgot⟩ := hrel
    obtain ⟨va, vc, rfl⟩ := hgot.at_.shape
    have HG := Lib.hid hgot
    have hll : ls.length ≤ 1000000 := Nat.le_trans hgot.len HC.out.few
    clear hgot
    go_wp2_with fail
    obtain ⟨w7, rfl⟩ : ∃ x, x = wr := ⟨_, rfl⟩
    go_loopw [9, 10] (fun v i wr => R3Rel lock needs ps ls w w7 v i wr) (fun _ i _ => ls.length - (intOf i).toNat)
    case atStart => exact ⟨0, ls, Nat.zero_le _, rfl, HG.out, fun x h => h, by simp, Below.refl _ _⟩
    case round =>
     obtain ⟨k, ls', hk, rfl, hg, hsub, hcl, hb⟩ := hrel
     obtain ⟨va', vc', rfl⟩ := hg.at_.shape
     have HG' := Lib.hid (⟨hg, hsub, hcl, hb⟩ : _ ∧ _ ∧ _ ∧ _)
     by_cases hlt : k < ls.length
     ·have i0 : (0 : Int) ≤ (k : Int) := by omega
      have i1 : (k : Int) < (ls.length : Int) := by omega
      obtain ⟨bn, on, rfl, hbn, d0⟩ := HG.out.at_.at' hb hlt
      have HT := Lib.hid (List.take_succ_eq_append_getElem hlt)
      have hmm := List.getElem_mem hlt
      obtain ⟨nm, hnm⟩ : ∃ x, ls[k] = x := ⟨_, rfl⟩
      rw [hnm] at d0 HT hmm
      have HRn := Lib.hid (HG.out.in_ nm hmm)
      have HFd := Lib.hid (rfind_any _ ps (S nm) wr (HC.out.packs.below hg.below (Nat.le_refl _)))
      clear hg hsub hcl hnm hmm
      go_wp2_with fail
      refine HFd.out.mono ?_
      rintro e w8 ⟨rfl, hb8⟩
      have HPi := Lib.hid (rpick_any HC.out (S nm) w8 (below_then HG'.out.1.below hb8))
      clear d0
      go_wp2_with fail
      refine HPi.out.mono ?_
      rintro e w9 ⟨x, out, rfl, hch, hrow, hb9, _⟩
      obtain ⟨holn, oa, oc, rfl⟩ := hrow.len
      have h89 := below_then hb8 hb9
      have HG9 := Lib.hid (HG'.out.1.on h89)
      have HB9 := Lib.hid (below_then HG'.out.2.2.2 h89)
      have HR9 := Lib.hid (⟨hch, hrow⟩ : _ ∧ _)
      have hol : out.length ≤ 9223372036854775807 := Nat.le_trans holn (by decide)
      clear hch hrow hb8 hb9 h89 holn
      go_wp2_with fail
      go_loopw [9, 12] (fun v i wr => R4Rel lock needs ps ls' out w w9 v i wr) (fun _ i _ => out.length - (intOf i).toNat)
      case atStart => exact ⟨0, ls', Nat.zero_le _, rfl, HG9.out, fun x h => h, by simp, Below.refl _ _⟩
      case round =>
       obtain ⟨m, ls2, hm, rfl, hg2, hsub2, hcl2, hb2⟩ := hrel
       obtain ⟨va2, vc2, rfl⟩ := hg2.at_.shape
       have HG2 := Lib.hid (⟨hg2, hsub2, hcl2, hb2⟩ : _ ∧ _ ∧ _ ∧ _)
       by_cases hlt2 : m < out.length
       ·have j0 : (0 : Int) ≤ (m : Int) := by omega
        have j1 : (m : Int) < (out.length : Int) := by omega
        have HT2 := Lib.hid (List.take_succ_eq_append_getElem hlt2)
        have hmem := List.getElem_mem hlt2
        obtain ⟨o, hoe⟩ : ∃ x, out[m] = x := ⟨_, rfl⟩
        rw [hoe] at HT2 hmem
        have HO := Lib.hid hoe
        have HOk := Lib.hid (HC.out.off HR9.out.1 hmem)
        have Hmem := Lib.hid hmem
        have honl : o.ns.length ≤ 9223372036854775807 := Nat.le_trans HOk.out.1.len.1 (by decide)
        clear hoe hmem hg2 hsub2 hcl2
        go_wp2_with fail
        obtain ⟨w10, rfl⟩ : ∃ x, x = wr := ⟨_, rfl⟩
        go_loopw [9, 13] (fun v i wr => R5Rel lock needs ps ls2 o.ns w w10 v i wr) (fun _ i _ => o.ns.length - (intOf i).toNat)
        case atStart => exact ⟨0, ls2, Nat.zero_le _, rfl, HG2.out.1, fun x h => h, by simp, Below.refl _ _⟩
        case round =>
         obtain ⟨q, ls3, hq, rfl, hg3, hsub3, hcl3, hb3⟩ := hrel
         obtain ⟨va3, vc3, rfl⟩ := hg3.at_.shape
         have HG3 := Lib.hid (⟨hg3, hsub3, hcl3, hb3⟩ : _ ∧ _ ∧ _ ∧ _)
         obtain ⟨bx, ox, hoa, hbx, c0, c1, c2, c3, c4, c5⟩ := HR9.out.2.at' (below_then HG2.out.2.2.2 hb3) hlt2
         subst hoa
         rw [HO.out] at c5
         obtain ⟨na, nc, hnv⟩ : ∃ a c, o.nv = .slice a o.ns.length c := ⟨_, _, rfl⟩
         rw [hnv] at c5
         have hll3 : ls3.length ≤ 1000000 := Nat.le_trans hg3.len HC.out.few
         have hwn := HOk.out.1.below hg3.below (Nat.le_refl _)
         rw [hnv] at hwn
         clear c0 c1 c2 c3 c4 hg3 hsub3 hcl3
         by_cases hlt3 : q < o.ns.length
         ·have l0 : (0 : Int) ≤ (q : Int) := by omega
          have l1 : (q : Int) < (o.ns.length : Int) := by omega
          obtain ⟨bm, om, rfl, hbm, k0, _⟩ := hwn.at' (Below.refl _ _) hlt3
          have HT3 := Lib.hid (List.take_succ_eq_append_getElem hlt3)
          have hnmm := List.getElem_mem hlt3
          obtain ⟨xn, hxn⟩ : ∃ x, o.ns[q] = x := ⟨_, rfl⟩
          rw [hxn] at k0 HT3 hnmm
          have HEd : Hid (EdgeN lock needs ps nm xn.1.name) := (edge_of HR9.out.1 xn.1.name).2 ⟨o, Hmem.out, xn, hnmm, rfl⟩
          have HAd := Lib.hid (radd_any _ ls3 xn.1.name wr HG3.out.1.at_ (by omega))
          clear hxn hnmm hwn
          go_wp2_with fail
          refine HAd.out.mono ?_
          rintro e w12 ⟨v12, rfl, hn12, hb12⟩
          obtain ⟨va4, vc4, rfl⟩ := hn12.shape
          clear k0 c5
          go_wp2_with fail
          go_roundw
          case rel =>
           obtain ⟨hg3, hsub3, hcl3, hb3⟩ := HG3.out
           refine ⟨q + 1, addL ls3 xn.1.name, hlt3, by go_num, hg3.add HRn.out HEd.out hn12 hb12, fun y hy => (addL_mem _ _ _).2 (.inr (hsub3 y hy)), fun n hn => ?_, below_then hb3 hb12⟩
           rw [HT3.out] at hn
           rcases List.mem_append.1 hn with hn | hn
           ·exact (addL_mem _ _ _).2 (.inr (hcl3 n hn))
           ·simp at hn; subst hn; exact (addL_mem _ _ _).2 (.inl rfl)
          case measure => simp [intOf]; omega
         ·have q8 : decide (q < o.ns.length) = false := decide_eq_false hlt3
          have hqe := Lib.hid (Nat.le_of_not_lt hlt3)
          clear hlt3 hwn
          go_wp2_with fail
          go_roundw
          case rel =>
           obtain ⟨hg3, hsub3, hcl3, hb3⟩ := HG3.out
           obtain ⟨_, hsub2, hcl2, hb2⟩ := HG2.out
           refine ⟨m + 1, ls3, hlt2, by go_num, hg3, fun y hy => hsub3 y (hsub2 y hy), fun o' ho' n hn => ?_, below_then hb2 hb3⟩
           rw [HT2.out] at ho'
           rcases List.mem_append.1 ho' with ho' | ho'
           ·exact hsub3 _ (hcl2 o' ho' n hn)
           ·simp at ho'; subst ho'
            exact hcl3 n (by rw [List.take_of_length_le hqe.out]; exact hn)
          case measure => simp [intOf]; omega
       ·have q7 : decide (m < out.length) = false := decide_eq_false hlt2
        have hme := Lib.hid (Nat.le_of_not_lt hlt2)
        clear hlt2 hg2 hsub2 hcl2
        go_wp2_with fail
        go_roundw
        case rel =>
         obtain ⟨hg2, hsub2, hcl2, hb2⟩ := HG2.out
         obtain ⟨_, hsub, hcl, _⟩ := HG'.out
         refine ⟨k + 1, ls2, hlt, by go_num, hg2, fun y hy => hsub2 y (hsub y hy), fun y hy d hd => ?_, below_then HB9.out hb2⟩
         rw [HT.out] at hy
         rcases List.mem_append.1 hy with hy | hy
         ·exact hsub2 d (hcl y hy d hd)
         ·simp at hy; subst hy
          obtain ⟨o, ho, n, hn, rfl⟩ := (edge_of HR9.out.1 d).1 hd
          exact hcl2 o (by rw [List.take_of_length_le hme.out]; exact ho) n hn
        case measure => simp [intOf]; omega
     ·have q6 : decide (k < ls.length) = false := decide_eq_false hlt
      have hke := Nat.le_of_not_lt hlt
      have HCl : Hid (∀ x ∈ ls, ∀ d, EdgeN lock needs ps x d → d ∈ ls') := by
       have h := hcl
       rw [List.take_of_length_le hke] at h
       exact h
      have hll' : ls'.length ≤ (allNames needs ps).length := hg.len
      have hlf := HC.out.few
      clear hlt hke hcl hg
      by_cases heq : ls'.length = ls.length
      ·have hq9 : ((ls'.length : Int) == (ls.length : Int)) = true := by rw [heq]; exact beq_self_eq_true _
       have HFn : Hid (GrowsAll (EdgeN lock needs ps) (needs.map wname) ls) := by
        have hin := eq_of_sub (up_nodup HG.out.up) hsub heq
        exact ⟨HG.out.in_, fun x hx d hd => hin d (HCl.out x hx d hd), HG.out.asked⟩
       clear hsub heq
       go_wp2_with fail
       obtain ⟨w11, rfl⟩ : ∃ x, x = wr := ⟨_, rfl⟩
       have HGF : Hid (GotN lock needs ps w w11 (.slice va ls.length vc) ls) := HG.out.on hb
       clear hb HG' HS
       go_loopw [14, 15] (fun v i wr => R6Rel lock needs ps ls w11 v i wr) (fun _ i _ => ls.length - (intOf i).toNat)
       case atStart => exact ⟨0, [], Nat.zero_le _, rfl, World.ownsRow_nil _ _ _ _, Below.refl _ _, by simp, by simp, by simp⟩
       case round =>
        obtain ⟨k, qs, hk, rfl, hown, hb, hnam, hpin, hch⟩ := hrel
        obtain ⟨vka, vkc, rfl⟩ := owns_len hown
        have hql : qs.length = k := by have := congrArg List.length hnam; rw [List.length_map, List.length_take] at this; omega
        have HP := Lib.hid (⟨hown, hb, hnam, hpin, hch⟩ : _ ∧ _ ∧ _ ∧ _ ∧ _)
        by_cases hlt : k < ls.length
        ·have i0 : (0 : Int) ≤ (k : Int) := by omega
         have i1 : (k : Int) < (ls.length : Int) := by omega
         obtain ⟨bn, on, rfl, hbn, d0⟩ := HGF.out.at_.at' hb hlt
         have hdF := hb.cell (p := ⟨bn, on + k, none⟩) hbn
         have HT := Lib.hid (List.take_succ_eq_append_getElem hlt)
         obtain ⟨nm, hnm⟩ : ∃ x, ls[k] = x := ⟨_, rfl⟩
         rw [hnm] at d0 HT
         have Hd0 : Hid (w11.cell? ⟨bn, on + k, none⟩ = some (.string (S nm))) := by show _ = _; rw [← hdF]; exact d0
         have HOw := Lib.hid (owns_below hown (Below.refl wr.heap.size wr).drew)
         have hst : RnS bn (on + k) (S nm) w11 wr.drew := ⟨cell_on d0 (Below.refl _ _).drew, hb.drew⟩
         have hqs : qs.length ≤ 1000000 := by omega
         obtain ⟨i1', hi, hz0, hz1, hz2⟩ := info_of info_pack
         have Hql := Lib.hid hql
         clear hown hb hnam hpin hch hnm hdF d0 hql
         go_wp2_with fail
         refine wp_region_held_drew (S := (fun W => RnS bn (on + k) (S nm) w11 W)) (by kernel_rfl) (hst) (fun hHeld => ?_)
         refine wpAnyH_take (i := 0) (v := ?_) rfl (by kernel_rfl) (by kernel_rfl) (by kernel_rfl) (fun _ _ _ h => h) (Or.inl ⟨by kernel_rfl, ?_⟩) hHeld ?_
         rotate_left
         ·(rintro W ⟨e0, _⟩; go_simp; (try with_reducible rfl))
         (try simp only [Act.put, putL])
         refine wpAnyH_take (i := 1) (v := ?_) rfl (by kernel_rfl) (by kernel_rfl) (by kernel_rfl) (fun _ _ _ h => h) (Or.inl ⟨by kernel_rfl, ?_⟩) hHeld ?_
         rotate_left
         ·(rintro W ⟨e0, _⟩; go_simp; (try with_reducible rfl))
         (try simp only [Act.put, putL])
         refine wpAnyH_take (i := 2) (v := ?_) rfl (by kernel_rfl) (by kernel_rfl) (by kernel_rfl) (fun _ _ _ h => h) (Or.inl ⟨by kernel_rfl, ?_⟩) hHeld ?_
         rotate_left
         ·(rintro W ⟨e0, _⟩; go_simp; (try with_reducible rfl))
         (try simp only [Act.put, putL])
         refine wpAnyH_take (i := 3) (v := ?_) rfl (by kernel_rfl) (by kernel_rfl) (by kernel_rfl) (fun _ _ _ h => h) (Or.inl ⟨by kernel_rfl, ?_⟩) hHeld ?_
         rotate_left
         ·(rintro W ⟨e0, _⟩; go_simp; (try with_reducible rfl))
         (try simp only [Act.put, putL])
         refine wpAnyH_take (i := 4) (v := ?_) rfl (by kernel_rfl) (by kernel_rfl) (by kernel_rfl) (fun _ _ _ h => h) (Or.inl ⟨by kernel_rfl, ?_⟩) hHeld ?_
         rotate_left
         ·(rintro W ⟨e0, _⟩; go_simp; (try with_reducible rfl))
         (try simp only [Act.put, putL])
         refine wpAnyH_take (i := 5) (v := ?_) rfl (by kernel_rfl) (by kernel_rfl) (by kernel_rfl) (fun _ _ _ h => h) (Or.inl ⟨by kernel_rfl, ?_⟩) hHeld ?_
         rotate_left
         ·(rintro W ⟨e0, _⟩; go_simp; (try with_reducible rfl))
         (try simp only [Act.put, putL])
         refine wpAnyH_take (i := 6) (v := ?_) rfl (by kernel_rfl) (by kernel_rfl) (by kernel_rfl) (fun _ _ _ h => h) (Or.inl ⟨by kernel_rfl, ?_⟩) hHeld ?_
         rotate_left
         ·(rintro W ⟨e0, _⟩; go_simp; (try with_reducible rfl))
         (try simp only [Act.put, putL])
         refine wpAnyH_take (i := 7) (v := ?_) rfl (by kernel_rfl) (by kernel_rfl) (by kernel_rfl) (fun _ _ _ h => h) (Or.inl ⟨by kernel_rfl, ?_⟩) hHeld ?_
         rotate_left
         ·(rintro W ⟨e0, _⟩; go_simp; (try with_reducible rfl))
         (try simp only [Act.put, putL])
         refine wpAnyH_take (i := 8) (v := ?_) rfl (by kernel_rfl) (by kernel_rfl) (by kernel_rfl) (fun _ _ _ h => h) (Or.inl ⟨by kernel_rfl, ?_⟩) hHeld ?_
         rotate_left
         ·(rintro W ⟨e0, _⟩; go_simp; (try with_reducible rfl))
         (try simp only [Act.put, putL])
         refine wpAnyH_take (i := 9) (v := ?_) rfl (by kernel_rfl) (by kernel_rfl) (by kernel_rfl) (fun _ _ _ h => h) (Or.inl ⟨by kernel_rfl, ?_⟩) hHeld ?_
         rotate_left
         ·(rintro W ⟨e0, _⟩; go_simp; (try with_reducible rfl))
         (try simp only [Act.put, putL])
         refine wpAnyH_take (i := 11) (v := ?_) rfl (by kernel_rfl) (by kernel_rfl) (by kernel_rfl) (fun _ _ _ h => h) (Or.inl ⟨by kernel_rfl, ?_⟩) hHeld ?_
         rotate_left
         ·(rintro W ⟨e0, _⟩; go_simp; (try with_reducible rfl))
         (try simp only [Act.put, putL])
         refine wpAnyH_take (i := 12) (v := ?_) rfl (by kernel_rfl) (by kernel_rfl) (by kernel_rfl) (fun _ _ _ h => h) (Or.inl ⟨by kernel_rfl, ?_⟩) hHeld ?_
         rotate_left
         ·(rintro W ⟨e0, _⟩; go_simp; (try with_reducible rfl))
         (try simp only [Act.put, putL])
         refine wpAnyH_ready (rs := [10]) (by kernel_rfl) (by simp) ?_
         refine AllReadyH.cons rfl (fun K hK => ?_) AllReadyH.nil
         go_simp
         refine (rfind_any _ ps (S nm) _ (HC.out.packs.below (HGF.out.below.trans (hHeld.2.mono HGF.out.below.size)) (Nat.le_refl _))).mono ?_
         rintro e w12 ⟨rfl, hb12⟩
         have HO12 := Lib.hid (owns_below HOw.out hb12)
         have HB12 := Lib.hid hb12
         refine hK.out _ _ (hHeld.on hb12) (fun hHeld => ?_)
         clear hK K
         (try simp only [Act.put, putL])
         refine wpAnyH_ready (rs := [13]) (by kernel_rfl) (by simp) ?_
         refine AllReadyH.cons rfl (fun K hK => ?_) AllReadyH.nil
         go_simp
         refine (rpick_any HC.out (S nm) _ (HGF.out.below.trans (hHeld.2.mono HGF.out.below.size))).mono ?_
         rintro e w13 ⟨x, out, rfl, hch, hrow, hb13, hfr⟩
         obtain ⟨_, xa, xc, rfl⟩ := hrow.len
         obtain ⟨on', hon⟩ : ∃ n, out.length = n := ⟨_, rfl⟩
         rw [hon]
         have HR13 := Lib.hid (⟨hch, hrow, hb13, hfr, hon⟩ : _ ∧ _ ∧ _ ∧ _ ∧ _)
         have HO13 := Lib.hid (owns_below HO12.out hb13)
         clear hch hrow hfr hon
         refine hK.out _ _ (hHeld.on hb13) (fun hHeld => ?_)
         clear hK K
         (try simp only [Act.put, putL])
         refine wpAnyH_take (i := 14) (v := ?_) rfl (by kernel_rfl) (by kernel_rfl) (by kernel_rfl) (fun _ _ _ h => h) (Or.inl ⟨by kernel_rfl, ?_⟩) hHeld ?_
         rotate_left
         ·(rintro W ⟨e0, _⟩; go_simp; (try with_reducible rfl))
         (try simp only [Act.put, putL])
         refine wpAnyH_ready (rs := [15]) (by kernel_rfl) (by simp) ?_
         refine AllReadyH.cons rfl (fun K hK => ?_) AllReadyH.nil
         go_simp
         have hal := (Below.refl w13.heap.size w13).alloc (Nat.le_refl _) (.cells #[.string (S nm), .slice xa on' xc] 52)
         refine hK.out _ _ (hHeld.on hal) (fun hHeld => ?_)
         clear hK K
         (try simp only [Act.put, putL])
         have hBl := hHeld.2
         refine wpAnyH_ready (rs := [16]) (by kernel_rfl) (by simp) ?_
         refine AllReadyH.cons rfl (fun K hK => ?_) AllReadyH.nil
         refine step_append_ats (by rfl) (.tmp 84) (.tmp 99) 22 (by rfl) w11.heap.size 52 i1' (.agg #[.string ⟨#[]⟩, .slice none 0 0]) 2 40 Tryz.underlying22 hi hz0 hz1 hz2 rfl (by decide) (.slice vka qs.length vkc) qs.length (qs.flatMap DPack.cells) (by simp [Act.eval]) (HO13.out.alloc _) ⟨w13.heap.size, 0, none⟩ 1 1 [.string (S nm), .slice xa on' xc] (by simp [Act.eval]) rfl (pack2_at _ _ rfl _ _ _) (by intro u hu; simp at hu; rcases hu with rfl | rfl <;> rfl) (by unfold maxLen; omega) (by omega) hBl.size ?_
         intro v14 w14 hown14 hg14 hk14
         obtain ⟨g14, cap14, hv14⟩ := Joins.ownsRow_form hown14 (by omega)
         subst hv14
         have hB14 := below_grown hBl (HO13.out.alloc _) hg14 hBl.size
         have hS14 : RnS bn (on + k) (S nm) w11 w14 := ⟨by rw [hB14.cell (p := ⟨bn, on + k, none⟩) hbn]; exact Hd0.out, hB14⟩
         have HG14 := Lib.hid (⟨hown14, hg14, hk14⟩ : _ ∧ _ ∧ _)
         clear hown14 hg14 hk14
         refine hK.out _ _ hS14 (fun hHeld => ?_)
         clear hK K
         (try simp only [Act.put, putL])
         refine wpAnyH_take (i := 17) (v := ?_) rfl (by kernel_rfl) (by kernel_rfl) (by kernel_rfl) (fun _ _ _ h => h) (Or.inl ⟨by kernel_rfl, ?_⟩) hHeld ?_
         rotate_left
         ·(rintro W ⟨e0, _⟩; go_simp; (try with_reducible rfl))
         (try simp only [Act.put, putL])
         refine wpAnyH_done (by kernel_rfl) ?_ _
         clear hS14 hst
         go_wp2
         go_roundw
         case rel =>
          obtain ⟨hown, hb, hnam, hpin, hchs⟩ := HP.out
          obtain ⟨hch, hrow, hb13, hfr, hon⟩ := HR13.out
          obtain ⟨hown14, hg14, hk14⟩ := HG14.out
          subst hon
          have h12 : Below wr.heap.size wr w12 := (Below.refl wr.heap.size wr).drew.trans HB12.out
          have h13 := below_then h12 hb13
          have h2 := below_then h13 hal
          have hwb := HGF.out.below
          have hnew : PackIn (fun g => (Value.slice vka qs.length vkc).ownBlock ≠ some g) (w13.alloc (.cells #[.string (S nm), .slice xa out.length xc] 52)) ⟨S nm, out, xa, xc⟩ := by
           refine ⟨ORow.below hrow hal (Nat.le_refl _), fun _ g hg e => ?_, fun o ho => ?_⟩
           ·have h1 := own_fresh hfr hg
            have h3 := (hown.lt g e).2
            have h4 := h12.size
            omega
           ·refine ((OffIn.of_ok (HC.out.off hch ho)).below (hwb.trans ((hb.trans (h2.mono hb.size)).mono hwb.size))).imp (fun g _ hA e => ?_)
            have h3 := (hown.lt g e).1
            have h4 := hwb.size
            omega
          refine ⟨k + 1, qs ++ [⟨S nm, out, xa, xc⟩], hlt, by go_num, ?_, hB14, ?_, pack_step2 hpin h2 hnew hg14 hk14, fun q hq => ?_⟩
          ·rw [List.flatMap_append, List.length_append]; exact hown14
          ·rw [List.map_append, hnam, HT.out]; rfl
          ·rcases List.mem_append.1 hq with hq | hq
           ·exact hchs q hq
           ·simp at hq; subst hq; exact hch
         case measure => simp [intOf]; omega
        ·have q5 : decide (k < ls.length) = false := decide_eq_false hlt
         have hke := Nat.le_of_not_lt hlt
         have HPost : Hid (TablePost lock needs ps w (.returned (.slice vka qs.length vkc)) wr) := by
          rw [List.take_of_length_le hke] at hnam
          refine ⟨_, qs, rfl, Packs.of_owns hown (fun q hq => (hpin q hq).ok), ⟨by rw [hnam]; exact HGF.out.up, fun a => by rw [hnam]; exact HFn.out.iff a, fun q hq => ⟨q.os, hch q hq, SimOs.refl _⟩⟩, HGF.out.below.trans (hb.mono HGF.out.below.size), fun q hq => HC.out.few_os2 (hch q hq)⟩
         clear hlt hke hown hb hnam hpin hch
         go_wp2_with fail
         go_ret
         exact HPost.out
      ·have hq9 : ((ls'.length : Int) == (ls.length : Int)) = false := by rw [beq_eq_false_iff_ne]; omega
       have hgt := Lib.hid (sub_lt (up_nodup HG.out.up) hsub heq)
       clear hsub heq
       go_wp2_with fail
       go_roundw
       case rel => exact ⟨ls', HG'.out.1⟩
       case measure => have := hgt.out; simp [lenV]; omega
end Go.Proofs.YtbgimpeklblcjaaGreatDoor
