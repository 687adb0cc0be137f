/- Explain: the texts of a row, one behind the other: walks. Explain: what is written of a need, of an offer, of a pick: walks. Explain: picks written: the walk of Show. -/
import Derived.Test.YtbgimpeklblcjaaGreatDoorBuilder
import Derived.Test.YtbgimpeklblcjaaGreatDoorShelfE
import Derived.Test.YtbgimpeklblcjaaGreatDoorExRan
import Derived.Test.YtbgimpeklblcjaaGreatDoorChOffers
import Derived.Test.YtbgimpeklblcjaaGreatDoorChCounts
import Derived.Test.YtbgimpeklblcjaaGreatDoorLex1
namespace Go
open Go.RowKit
theorem builder_on {T e : TypeId} {B b : Nat} {bs : List Value} {w w' : World} (h : Lib.IsBuilder T e B b bs w) (hb : Below w.heap.size w w') : Lib.IsBuilder T e B b bs w' := by
 have h1 : ∀ p, Lib.BuilderAt T e B b p bs w → Lib.BuilderAt T e B b p bs w' := fun p ⟨h1, v, h2, h3, h4⟩ =>
  ⟨h1, v, by rw [hb.block b (by
   rcases Nat.lt_or_ge b w.heap.size with h | h
   ·exact h
   ·rw [Array.getElem?_eq_none h] at h2; cases h2)]; exact h2, owns_below h3 hb, h4⟩
 exact h.imp (h1 _) (h1 _)
theorem byteCells_app (l m : List UInt8) : Lib.byteCells l ++ Lib.strCells (S m) = Lib.byteCells (l ++ m) := by
 show Lib.byteCells l ++ Lib.byteCells m = _
 unfold Lib.byteCells
 rw [List.map_append]
theorem byteCells_len (l : List UInt8) : (Lib.byteCells l).length = l.length := by unfold Lib.byteCells; rw [List.length_map]
/-- what is written of a need, an offer, a pick -/
def needT (x : Want × Value) : List UInt8 := x.1.name ++ 32 :: (showR x.1.bs ++ [10])
def offT (o : DOff) : List UInt8 := 32 :: (o.v.show ++ if o.y = true then [45] else [])
def pikT (p : Pik) : List UInt8 := p.nm ++ 32 :: (p.v.show ++ [10])
theorem flat_take {α : Type} {f : α → List UInt8} {xs : List α} {k : Nat} (hk : k < xs.length) : (xs.take (k + 1)).flatMap f = (xs.take k).flatMap f ++ f xs[k] := by
 rw [List.take_succ_eq_append_getElem hk, List.flatMap_append]; simp
theorem flat_le {α : Type} {f : α → List UInt8} {xs : List α} (k : Nat) : ((xs.take k).flatMap f).length ≤ (xs.flatMap f).length := by
 conv => rhs; rw [← List.take_append_drop k xs]
 rw [List.flatMap_append, List.length_append]; omega
end Go
namespace Go.Proofs.YtbgimpeklblcjaaGreatDoor
open Go.RowKit Go.Maps
def LnNeedRel (xs : List (Want × Value)) (w : World) (i : Value) (wr : World) : Prop :=
 ∃ k : Nat, k ≤ xs.length ∧ i = .int .i64 (k : Int) ∧ Lib.IsBuilder 115 5 w.heap.size w.heap.size (Lib.byteCells ((xs.take k).flatMap needT)) wr ∧ Below w.heap.size w wr
set_option maxRecDepth 100000 in
set_option maxHeartbeats 4000000 in
theorem linesNeed_any (xs : List (Want × Value)) (a : Option Addr) (c : Nat) (w : World) (hn : Wants w (.slice a xs.length c) xs)
  (hF : ∀ x ∈ xs, ∀ W, Below w.heap.size w W → Calls Tryz.prog 32 #[.agg #[.string (S x.1.name), x.2]] W fun e w' => e = .returned (.string (S (needT x))) ∧ Below W.heap.size W w') (hlen : (xs.flatMap needT).length ≤ 1000000000) (hm : xs.length ≤ 9223372036854775807) :
  Calls Tryz.prog 31 #[.func (.func 32) #[] #[], .slice a xs.length c] w fun e w' => e = .returned (.string (S (xs.flatMap needT))) ∧ Below w.heap.size w w' := by
 have HN := Lib.hid hn
 have HF := Lib.hid hF
 have HL := Lib.hid hlen
 have HSt := Lib.hid (Lib.fresh_isBuilder 115 5 w)
 have HB0 := Lib.hid ((Below.refl w.heap.size w).alloc (Nat.le_refl _) (.cells #[.pointer none, .slice none 0 0] 115))
 clear hn hF hlen
 go_enter Tryz.func31, Tryz.ntmps31
 go_wp2_with fail
 go_loopw [10] (fun i wr => LnNeedRel xs w i wr) (fun i _ => xs.length - (intOf i).toNat)
 case atStart => exact ⟨0, Nat.zero_le _, rfl, HSt.out, HB0.out⟩
 case round =>
  obtain ⟨k, hk, rfl, hbd, hb⟩ := hrel
  have HBd := Lib.hid hbd
  have HB := Lib.hid hb
  clear hbd
  by_cases hlt : k < xs.length
  ·have i0 : (0 : Int) ≤ (k : Int) := by omega
   have i1 : (k : Int) < (xs.length : Int) := by omega
   obtain ⟨bx, ox, rfl, hbx, c0, c1⟩ := HN.out.at' hb hlt
   have HT := Lib.hid (flat_take (f := needT) hlt)
   have HM := Lib.hid (List.getElem_mem hlt)
   have HLe := Lib.hid (flat_le (f := needT) (xs := xs) (k + 1))
   generalize (xs[k]'hlt) = x at c0 c1 HT HM
   have hrv := HN.out.2 x HM.out
   obtain ⟨xn, xv⟩ := x
   obtain ⟨hbn, ra, rcap, hrv⟩ := hrv
   simp only at hrv c0 c1
   subst hrv
   have hwk : IntKind.i64.wrap ((k : Int) + 1) = (k : Int) + 1 := by rw [IntKind.wrap_i64]; omega
   have hal := (Below.refl wr.heap.size wr).alloc (Nat.le_refl _) (.cells #[.string (S xn.name), .slice ra xn.bs.length rcap] 60)
   have hx1 := Below.refl (wr.heap.size + 1) (wr.alloc (.cells #[.string (S xn.name), .slice ra xn.bs.length rcap] 60))
   have d0 := box_cells hx1 0
   have d1 := box_cells hx1 1
   simp only [List.getElem?_toArray, List.getElem?_cons_zero, List.getElem?_cons_succ] at d0 d1
   have HBa := Lib.hid (below_then hb hal)
   have HBda := Lib.hid (builder_on HBd.out hal)
   have HFx := Lib.hid (fun W (h : Below (wr.alloc (.cells #[.string (S xn.name), .slice ra xn.bs.length rcap] 60)).heap.size (wr.alloc (.cells #[.string (S xn.name), .slice ra xn.bs.length rcap] 60)) W) => HF.out _ HM.out W (below_then (below_then hb hal) h))
   clear hal hx1 hb
   go_wp2_with fail
   refine (HFx.out _ (Below.refl _ _)).mono ?_
   rintro e w2 ⟨rfl, hb2⟩
   have HB2 := Lib.hid (below_then HBa.out hb2)
   have HW := Lib.hid (writeString_any w.heap.size w.heap.size _ (S (needT (xn, .slice ra xn.bs.length rcap))) w2 (builder_on HBda.out hb2) (by
    have h1 := HLe.out
    have h2 := HL.out
    rw [HT.out, List.length_append] at h1
    rw [byteCells_len, show (S (needT (xn, .slice ra xn.bs.length rcap))).size = (needT (xn, .slice ra xn.bs.length rcap)).length from by simp [S, ByteArray.size]]; omega) HB2.out.size)
   have HBx := HB2.out
   clear d0 d1 c0 c1 hb2
   go_wp2_with fail
   refine HW.out.mono ?_
   rintro e w3 ⟨rfl, hbd3, hb3⟩
   rw [byteCells_app, ← HT.out] at hbd3
   have HBd3 := Lib.hid hbd3
   have HB3 := Lib.hid (HBx.trans hb3)
   clear hbd3 hb3 HBx
   go_wp2_with fail
   go_roundw
   case rel => exact ⟨k + 1, hlt, by go_num, HBd3.out, HB3.out⟩
   case measure => simp [intOf]; omega
  ·have i1 : decide (k < xs.length) = false := decide_eq_false hlt
   have hke : xs.take k = xs := List.take_of_length_le (by omega)
   have hbd := HBd.out
   rw [hke] at hbd
   have HSs := Lib.hid (Tryz.Builder_String_any w.heap.size w.heap.size _ wr hbd HB.out.size)
   clear hlt hke hbd hb
   go_wp2_with fail
   refine HSs.out.mono ?_
   rintro e w4 ⟨rfl, hb4⟩
   have HB4 := Lib.hid (HB.out.trans hb4)
   clear hb4
   go_wp2_with fail
   go_ret
   exact ⟨rfl, HB4.out⟩
def LnOfferRel (xs : List (DOff)) (w : World) (i : Value) (wr : World) : Prop :=
 ∃ k : Nat, k ≤ xs.length ∧ i = .int .i64 (k : Int) ∧ Lib.IsBuilder 115 5 w.heap.size w.heap.size (Lib.byteCells ((xs.take k).flatMap offT)) wr ∧ Below w.heap.size w wr
set_option maxRecDepth 100000 in
set_option maxHeartbeats 4000000 in
theorem linesOffer_any (xs : List (DOff)) (a : Option Addr) (c : Nat) (w : World) (hn : Offs w (.slice a xs.length c) xs)
  (hF : ∀ x ∈ xs, ∀ W, Below w.heap.size w W → Calls Tryz.prog 34 #[.agg #[.int .i64 x.v.a, .int .i64 x.v.b, .int .i64 x.v.c, .string x.v.p, .bool x.y, x.nv]] W fun e w' => e = .returned (.string (S (offT x))) ∧ Below W.heap.size W w') (hlen : (xs.flatMap offT).length ≤ 1000000000) (hm : xs.length ≤ 9223372036854775807) :
  Calls Tryz.prog 33 #[.func (.func 34) #[] #[], .slice a xs.length c] w fun e w' => e = .returned (.string (S (xs.flatMap offT))) ∧ Below w.heap.size w w' := by
 have HN := Lib.hid hn
 have HF := Lib.hid hF
 have HL := Lib.hid hlen
 have HSt := Lib.hid (Lib.fresh_isBuilder 115 5 w)
 have HB0 := Lib.hid ((Below.refl w.heap.size w).alloc (Nat.le_refl _) (.cells #[.pointer none, .slice none 0 0] 115))
 clear hn hF hlen
 go_enter Tryz.func33, Tryz.ntmps33
 go_wp2_with fail
 go_loopw [10] (fun i wr => LnOfferRel xs w i wr) (fun i _ => xs.length - (intOf i).toNat)
 case atStart => exact ⟨0, Nat.zero_le _, rfl, HSt.out, HB0.out⟩
 case round =>
  obtain ⟨k, hk, rfl, hbd, hb⟩ := hrel
  have HBd := Lib.hid hbd
  have HB := Lib.hid hb
  clear hbd
  by_cases hlt : k < xs.length
  ·have i0 : (0 : Int) ≤ (k : Int) := by omega
   have i1 : (k : Int) < (xs.length : Int) := by omega
   obtain ⟨bx, ox, rfl, hbx, c0, c1, c2, c3, c4, c5⟩ := HN.out.1.at' hb hlt
   have HT := Lib.hid (flat_take (f := offT) hlt)
   have HM := Lib.hid (List.getElem_mem hlt)
   have HLe := Lib.hid (flat_le (f := offT) (xs := xs) (k + 1))
   generalize (xs[k]'hlt) = x at c0 c1 c2 c3 c4 c5 HT HM
   obtain ⟨xv, xy, xns, xna, xnc⟩ := x
   simp only [DOff.nv] at c0 c1 c2 c3 c4 c5
   have hwk : IntKind.i64.wrap ((k : Int) + 1) = (k : Int) + 1 := by rw [IntKind.wrap_i64]; omega
   have hal := (Below.refl wr.heap.size wr).alloc (Nat.le_refl _) (.cells #[.int .i64 xv.a, .int .i64 xv.b, .int .i64 xv.c, .string xv.p, .bool xy, .slice xna xns.length xnc] 55)
   have hx1 := Below.refl (wr.heap.size + 1) (wr.alloc (.cells #[.int .i64 xv.a, .int .i64 xv.b, .int .i64 xv.c, .string xv.p, .bool xy, .slice xna xns.length xnc] 55))
   have d0 := box_cells hx1 0
   have d1 := box_cells hx1 1
   have d2 := box_cells hx1 2
   have d3 := box_cells hx1 3
   have d4 := box_cells hx1 4
   have d5 := box_cells hx1 5
   simp only [List.getElem?_toArray, List.getElem?_cons_zero, List.getElem?_cons_succ] at d0 d1 d2 d3 d4 d5
   have HBa := Lib.hid (below_then hb hal)
   have HBda := Lib.hid (builder_on HBd.out hal)
   have HFx := Lib.hid (fun W (h : Below (wr.alloc (.cells #[.int .i64 xv.a, .int .i64 xv.b, .int .i64 xv.c, .string xv.p, .bool xy, .slice xna xns.length xnc] 55)).heap.size (wr.alloc (.cells #[.int .i64 xv.a, .int .i64 xv.b, .int .i64 xv.c, .string xv.p, .bool xy, .slice xna xns.length xnc] 55)) W) => HF.out _ HM.out W (below_then (below_then hb hal) h))
   clear hal hx1 hb
   go_wp2_with fail
   refine (HFx.out _ (Below.refl _ _)).mono ?_
   rintro e w2 ⟨rfl, hb2⟩
   have HB2 := Lib.hid (below_then HBa.out hb2)
   have HW := Lib.hid (writeString_any w.heap.size w.heap.size _ (S (offT ⟨xv, xy, xns, xna, xnc⟩)) w2 (builder_on HBda.out hb2) (by
    have h1 := HLe.out
    have h2 := HL.out
    rw [HT.out, List.length_append] at h1
    rw [byteCells_len, show (S (offT ⟨xv, xy, xns, xna, xnc⟩)).size = (offT ⟨xv, xy, xns, xna, xnc⟩).length from by simp [S, ByteArray.size]]; omega) HB2.out.size)
   have HBx := HB2.out
   clear d0 d1 d2 d3 d4 d5 c0 c1 c2 c3 c4 c5 hb2
   go_wp2_with fail
   refine HW.out.mono ?_
   rintro e w3 ⟨rfl, hbd3, hb3⟩
   rw [byteCells_app, ← HT.out] at hbd3
   have HBd3 := Lib.hid hbd3
   have HB3 := Lib.hid (HBx.trans hb3)
   clear hbd3 hb3 HBx
   go_wp2_with fail
   go_roundw
   case rel => exact ⟨k + 1, hlt, by go_num, HBd3.out, HB3.out⟩
   case measure => simp [intOf]; omega
  ·have i1 : decide (k < xs.length) = false := decide_eq_false hlt
   have hke : xs.take k = xs := List.take_of_length_le (by omega)
   have hbd := HBd.out
   rw [hke] at hbd
   have HSs := Lib.hid (Tryz.Builder_String_any w.heap.size w.heap.size _ wr hbd HB.out.size)
   clear hlt hke hbd hb
   go_wp2_with fail
   refine HSs.out.mono ?_
   rintro e w4 ⟨rfl, hb4⟩
   have HB4 := Lib.hid (HB.out.trans hb4)
   clear hb4
   go_wp2_with fail
   go_ret
   exact ⟨rfl, HB4.out⟩
def LnPickRel (xs : List (Pik)) (w : World) (i : Value) (wr : World) : Prop :=
 ∃ k : Nat, k ≤ xs.length ∧ i = .int .i64 (k : Int) ∧ Lib.IsBuilder 115 5 w.heap.size w.heap.size (Lib.byteCells ((xs.take k).flatMap pikT)) wr ∧ Below w.heap.size w wr
set_option maxRecDepth 100000 in
set_option maxHeartbeats 4000000 in
theorem linesPick_any (xs : List (Pik)) (a : Option Addr) (c : Nat) (w : World) (hn : Piks w (.slice a xs.length c) xs)
  (hF : ∀ x ∈ xs, ∀ W, Below w.heap.size w W → Calls Tryz.prog 41 #[.agg #[.string x.name, .int .i64 x.v.a, .int .i64 x.v.b, .int .i64 x.v.c, .string x.v.p]] W fun e w' => e = .returned (.string (S (pikT x))) ∧ Below W.heap.size W w') (hlen : (xs.flatMap pikT).length ≤ 1000000000) (hm : xs.length ≤ 9223372036854775807) :
  Calls Tryz.prog 40 #[.func (.func 41) #[] #[], .slice a xs.length c] w fun e w' => e = .returned (.string (S (xs.flatMap pikT))) ∧ Below w.heap.size w w' := by
 have HN := Lib.hid hn
 have HF := Lib.hid hF
 have HL := Lib.hid hlen
 have HSt := Lib.hid (Lib.fresh_isBuilder 115 5 w)
 have HB0 := Lib.hid ((Below.refl w.heap.size w).alloc (Nat.le_refl _) (.cells #[.pointer none, .slice none 0 0] 115))
 clear hn hF hlen
 go_enter Tryz.func40, Tryz.ntmps40
 go_wp2_with fail
 go_loopw [10] (fun i wr => LnPickRel xs w i wr) (fun i _ => xs.length - (intOf i).toNat)
 case atStart => exact ⟨0, Nat.zero_le _, rfl, HSt.out, HB0.out⟩
 case round =>
  obtain ⟨k, hk, rfl, hbd, hb⟩ := hrel
  have HBd := Lib.hid hbd
  have HB := Lib.hid hb
  clear hbd
  by_cases hlt : k < xs.length
  ·have i0 : (0 : Int) ≤ (k : Int) := by omega
   have i1 : (k : Int) < (xs.length : Int) := by omega
   obtain ⟨bx, ox, rfl, hbx, hcp⟩ := HN.out.row hb hlt
   obtain ⟨c0, c1, c2, c3, c4⟩ := hcp k hlt
   have HT := Lib.hid (flat_take (f := pikT) hlt)
   have HM := Lib.hid (List.getElem_mem hlt)
   have HLe := Lib.hid (flat_le (f := pikT) (xs := xs) (k + 1))
   generalize (xs[k]'hlt) = x at c0 c1 c2 c3 c4 HT HM
   have hwk : IntKind.i64.wrap ((k : Int) + 1) = (k : Int) + 1 := by rw [IntKind.wrap_i64]; omega
   have hal := (Below.refl wr.heap.size wr).alloc (Nat.le_refl _) (.cells #[.string x.name, .int .i64 x.v.a, .int .i64 x.v.b, .int .i64 x.v.c, .string x.v.p] 43)
   have hx1 := Below.refl (wr.heap.size + 1) (wr.alloc (.cells #[.string x.name, .int .i64 x.v.a, .int .i64 x.v.b, .int .i64 x.v.c, .string x.v.p] 43))
   have d0 := box_cells hx1 0
   have d1 := box_cells hx1 1
   have d2 := box_cells hx1 2
   have d3 := box_cells hx1 3
   have d4 := box_cells hx1 4
   simp only [List.getElem?_toArray, List.getElem?_cons_zero, List.getElem?_cons_succ] at d0 d1 d2 d3 d4
   have HBa := Lib.hid (below_then hb hal)
   have HBda := Lib.hid (builder_on HBd.out hal)
   have HFx := Lib.hid (fun W (h : Below (wr.alloc (.cells #[.string x.name, .int .i64 x.v.a, .int .i64 x.v.b, .int .i64 x.v.c, .string x.v.p] 43)).heap.size (wr.alloc (.cells #[.string x.name, .int .i64 x.v.a, .int .i64 x.v.b, .int .i64 x.v.c, .string x.v.p] 43)) W) => HF.out _ HM.out W (below_then (below_then hb hal) h))
   clear hcp hal hx1 hb
   go_wp2_with fail
   refine (HFx.out _ (Below.refl _ _)).mono ?_
   rintro e w2 ⟨rfl, hb2⟩
   have HB2 := Lib.hid (below_then HBa.out hb2)
   have HW := Lib.hid (writeString_any w.heap.size w.heap.size _ (S (pikT x)) w2 (builder_on HBda.out hb2) (by
    have h1 := HLe.out
    have h2 := HL.out
    rw [HT.out, List.length_append] at h1
    rw [byteCells_len, show (S (pikT x)).size = (pikT x).length from by simp [S, ByteArray.size]]; omega) HB2.out.size)
   have HBx := HB2.out
   clear d0 d1 d2 d3 d4 c0 c1 c2 c3 c4 hb2
   go_wp2_with fail
   refine HW.out.mono ?_
   rintro e w3 ⟨rfl, hbd3, hb3⟩
   rw [byteCells_app, ← HT.out] at hbd3
   have HBd3 := Lib.hid hbd3
   have HB3 := Lib.hid (HBx.trans hb3)
   clear hbd3 hb3 HBx
   go_wp2_with fail
   go_roundw
   case rel => exact ⟨k + 1, hlt, by go_num, HBd3.out, HB3.out⟩
   case measure => simp [intOf]; omega
  ·have i1 : decide (k < xs.length) = false := decide_eq_false hlt
   have hke : xs.take k = xs := List.take_of_length_le (by omega)
   have hbd := HBd.out
   rw [hke] at hbd
   have HSs := Lib.hid (Tryz.Builder_String_any w.heap.size w.heap.size _ wr hbd HB.out.size)
   clear hlt hke hbd hb
   go_wp2_with fail
   refine HSs.out.mono ?_
   rintro e w4 ⟨rfl, hb4⟩
   have HB4 := Lib.hid (HB.out.trans hb4)
   clear hb4
   go_wp2_with fail
   go_ret
   exact ⟨rfl, HB4.out⟩
end Go.Proofs.YtbgimpeklblcjaaGreatDoor

namespace Go
open Go.RowKit
theorem add_asE {P : Program} {a b c : ByteArray} (h : a ++ b = c) (hs : c.size ≤ 10000000) (W : World) : (Op.stringOp .add a b).run P W = .ok (.string c) W := by
 subst h
 exact run_string_add_sum W _ _ (by rw [ByteArray.size_append] at hs; omega)
theorem S_sizeE (l : List UInt8) : (S l).size = l.length := by simp [S, ByteArray.size]
theorem showR_lenE {bs : List Bnd} (h : rangeOk bs = true) : (showR bs).length ≤ 2000 := by
 unfold showR
 split
 ·simp
 ·unfold rangeOk at h
  simp only [Bool.and_eq_true, decide_eq_true_eq, List.all_eq_true] at h
  have := joinAt_len 32 60 (bs.map Bnd.show) (fun p hp => by obtain ⟨b, hb, rfl⟩ := List.mem_map.1 hp; exact show_len (h.2 b hb))
  rw [List.length_map] at this
  unfold showB
  have := h.1
  omega
theorem verShow_len {v : V4} (h : v.ok = true) : v.show.length ≤ 45 := by
 have hb := verOk_bounds h
 exact showL_len (by omega) (by omega) (by omega) hb.2.2.2.2.2.2.1
theorem needT_len {x : Want × Value} (hn : x.1.name.length ≤ 100) (h : rangeOk x.1.bs = true) : (needT x).length ≤ 3000 := by
 have := showR_lenE h
 unfold needT; simp; omega
theorem offT_len {o : DOff} (h : o.v.ok = true) : (offT o).length ≤ 100 := by
 have := verShow_len h
 unfold offT; split <;> simp <;> omega
theorem pikT_len {p : Pik} (hn : p.nm.length ≤ 100) (h : p.v.ok = true) : (pikT p).length ≤ 300 := by
 have := verShow_len h
 unfold pikT; simp; omega
end Go
namespace Go.Proofs.YtbgimpeklblcjaaGreatDoor
open Go.RowKit Go.Maps
set_option maxRecDepth 100000 in
set_option maxHeartbeats 4000000 in
theorem need_any (x : Want) (ra : Option Addr) (rc : Nat) (w : World) (hb : Bnds w (.slice ra x.bs.length rc) x.bs) (hE : EnvI w) (hn : x.name.length ≤ 100) (hok : rangeOk x.bs = true) (hp : ∀ b ∈ x.bs, b.v.p.size ≤ 9223372036854775807) :
  Calls Tryz.prog 32 #[.agg #[.string (S x.name), .slice ra x.bs.length rc]] w fun e w' => e = .returned (.string (S (needT (x, .slice ra x.bs.length rc)))) ∧ Below w.heap.size w w' := by
 have hx1 := Below.refl (w.heap.size + 1) (w.alloc (.cells #[.string (S x.name), .slice ra x.bs.length rc] 60))
 have hW1 := below_first hx1
 have HX := Lib.hid hx1
 have HW1 := Lib.hid hW1
 have HSh := Lib.hid (rshow_yes _ x.bs _ (hb.below hW1 (Nat.le_refl _)) ⟨_, _, rfl⟩ (hE.below hW1) hp hok)
 have hl := showR_lenE hok
 have r1 := fun W => add_asE (P := Tryz.prog) (a := S x.name) (b := ⟨#[32]⟩) (c := S (x.name ++ [32])) (S_append _ [32]) (by rw [S_sizeE]; simp; omega) W
 have r2 := fun W => add_asE (P := Tryz.prog) (a := S (x.name ++ [32])) (b := S (showR x.bs)) (c := S (x.name ++ [32] ++ showR x.bs)) (S_append _ _) (by rw [S_sizeE]; simp; omega) W
 have r3 := fun W => add_asE (P := Tryz.prog) (a := S (x.name ++ [32] ++ showR x.bs)) (b := ⟨#[10]⟩) (c := S (x.name ++ [32] ++ showR x.bs ++ [10])) (S_append _ [10]) (by rw [S_sizeE]; simp; omega) W
 have hT : x.name ++ [32] ++ showR x.bs ++ [10] = needT (x, .slice ra x.bs.length rc) := by unfold needT; simp
 rw [hT] at r3
 generalize S (x.name ++ [32] ++ showR x.bs) = A2 at r2 r3
 generalize S (x.name ++ [32]) = A1 at r1 r2
 have b1 := box_cells hx1 1
 simp only [List.getElem?_toArray, List.getElem?_cons_zero, List.getElem?_cons_succ] at b1
 clear hb hE hn hok hp hx1 hW1 hl hT
 go_enter Tryz.func32, Tryz.ntmps32
 go_wp2_with fail
 refine HSh.out.mono ?_
 rintro e w2 ⟨rfl, hb2⟩
 have hx2 := box_then HX.out hb2
 have d0 := box_cells hx2 0
 simp only [List.getElem?_toArray, List.getElem?_cons_zero] at d0
 have HB2 := Lib.hid (below_then HW1.out hb2)
 clear hx2 hb2 b1
 go_wp2_with fail
 go_ret
 exact ⟨rfl, HB2.out⟩
set_option maxRecDepth 100000 in
set_option maxHeartbeats 4000000 in
theorem offer_any (o : DOff) (w : World) (hE : EnvI w) (hok : o.v.ok = true) :
  Calls Tryz.prog 34 #[.agg #[.int .i64 o.v.a, .int .i64 o.v.b, .int .i64 o.v.c, .string o.v.p, .bool o.y, o.nv]] w fun e w' => e = .returned (.string (S (offT o))) ∧ Below w.heap.size w w' := by
 obtain ⟨v, y, ns, na, nc⟩ := o
 simp only [DOff.nv] at hok ⊢
 have hx1 := Below.refl (w.heap.size + 1) (w.alloc (.cells #[.int .i64 v.a, .int .i64 v.b, .int .i64 v.c, .string v.p, .bool y, .slice na ns.length nc] 55))
 have hW1 := below_first hx1
 have HX := Lib.hid hx1
 have HW1 := Lib.hid hW1
 have HSh := Lib.hid (showQ_any v hok (S v.show) rfl _ (hE.below hW1))
 have hl := verShow_len hok
 have r1 := fun W => add_asE (P := Tryz.prog) (a := S v.show) (b := ⟨#[45]⟩) (c := S (v.show ++ [45])) (S_append _ [45]) (by rw [S_sizeE]; simp; omega) W
 have r2 := fun W => add_asE (P := Tryz.prog) (a := ⟨#[32]⟩) (b := S v.show) (c := S (32 :: v.show)) (S_append [32] _) (by rw [S_sizeE]; simp; omega) W
 have r3 := fun W => add_asE (P := Tryz.prog) (a := ⟨#[32]⟩) (b := S (v.show ++ [45])) (c := S (32 :: (v.show ++ [45]))) (S_append [32] _) (by rw [S_sizeE]; simp; omega) W
 have b0 := box_cells hx1 0
 have b1 := box_cells hx1 1
 have b2 := box_cells hx1 2
 have b3 := box_cells hx1 3
 simp only [List.getElem?_toArray, List.getElem?_cons_zero, List.getElem?_cons_succ] at b0 b1 b2 b3
 clear hE hok hx1 hW1 hl
 go_enter Tryz.func34, Tryz.ntmps34
 go_wp2_with fail
 refine HSh.out.mono ?_
 rintro e w2 ⟨rfl, hb2⟩
 have hx2 := box_then HX.out hb2
 have d4 := box_cells hx2 4
 simp only [List.getElem?_toArray, List.getElem?_cons_zero, List.getElem?_cons_succ] at d4
 have HB2 := Lib.hid (below_then HW1.out hb2)
 clear hx2 hb2 b0 b1 b2 b3
 cases y
 ·have hT : Hid (32 :: v.show = offT ⟨v, false, ns, na, nc⟩) := by show _ = _; unfold offT; simp
  go_wp2_with fail
  go_ret
  exact ⟨by rw [← hT.out]; rfl, HB2.out⟩
 ·have hT : Hid (32 :: (v.show ++ [45]) = offT ⟨v, true, ns, na, nc⟩) := by show _ = _; unfold offT; simp
  go_wp2_with fail
  go_ret
  exact ⟨by rw [← hT.out]; rfl, HB2.out⟩
set_option maxRecDepth 100000 in
set_option maxHeartbeats 4000000 in
theorem pickT_any (x : Pik) (w : World) (hE : EnvI w) (hn : x.nm.length ≤ 100) (hok : x.v.ok = true) :
  Calls Tryz.prog 41 #[.agg #[.string x.name, .int .i64 x.v.a, .int .i64 x.v.b, .int .i64 x.v.c, .string x.v.p]] w fun e w' => e = .returned (.string (S (pikT x))) ∧ Below w.heap.size w w' := by
 obtain ⟨xn, v⟩ := x
 simp only at hok hn ⊢
 have hxn : xn = S xn.data.toList := (S_of xn).symm
 have hx1 := Below.refl (w.heap.size + 1) (w.alloc (.cells #[.string xn, .int .i64 v.a, .int .i64 v.b, .int .i64 v.c, .string v.p] 43))
 have hW1 := below_first hx1
 have HX := Lib.hid hx1
 have HW1 := Lib.hid hW1
 have HSh := Lib.hid (showQ_any v hok (S v.show) rfl _ (hE.below hW1))
 have hl := verShow_len hok
 have hn2 : xn.data.toList.length ≤ 100 := hn
 have r1 := fun W => add_asE (P := Tryz.prog) (a := xn) (b := ⟨#[32]⟩) (c := S (xn.data.toList ++ [32])) (by rw [← S_append]; rfl) (by rw [S_sizeE]; simp at hn2 ⊢; omega) W
 have r2 := fun W => add_asE (P := Tryz.prog) (a := S (xn.data.toList ++ [32])) (b := S v.show) (c := S (xn.data.toList ++ [32] ++ v.show)) (S_append _ _) (by rw [S_sizeE]; simp at hn2 ⊢; omega) W
 have r3 := fun W => add_asE (P := Tryz.prog) (a := S (xn.data.toList ++ [32] ++ v.show)) (b := ⟨#[10]⟩) (c := S (xn.data.toList ++ [32] ++ v.show ++ [10])) (S_append _ [10]) (by rw [S_sizeE]; simp at hn2 ⊢; omega) W
 have hT : xn.data.toList ++ [32] ++ v.show ++ [10] = pikT ⟨xn, v⟩ := by unfold pikT Pik.nm; simp
 rw [hT] at r3
 generalize S (xn.data.toList ++ [32] ++ v.show) = A2 at r2 r3
 generalize S (xn.data.toList ++ [32]) = A1 at r1 r2
 have b1 := box_cells hx1 1
 have b2 := box_cells hx1 2
 have b3 := box_cells hx1 3
 have b4 := box_cells hx1 4
 simp only [List.getElem?_toArray, List.getElem?_cons_zero, List.getElem?_cons_succ] at b1 b2 b3 b4
 clear hE hok hx1 hW1 hl hn hn2 hT hxn
 go_enter Tryz.func41, Tryz.ntmps41
 go_wp2_with fail
 refine HSh.out.mono ?_
 rintro e w2 ⟨rfl, hb2⟩
 have hx2 := box_then HX.out hb2
 have d0 := box_cells hx2 0
 simp only [List.getElem?_toArray, List.getElem?_cons_zero] at d0
 have HB2 := Lib.hid (below_then HW1.out hb2)
 clear hx2 hb2 b1 b2 b3 b4
 go_wp2_with fail
 go_ret
 exact ⟨rfl, HB2.out⟩
end Go.Proofs.YtbgimpeklblcjaaGreatDoor

namespace Go
open Go.RowKit
/-- what Show tells -/
def showT (ps : List Pik) : ByteArray := if ps.all Pik.ok = true then S (ps.flatMap pikT) else ⟨#[]⟩
def showE (ps : List Pik) : Int := if ps.all Pik.ok = true then 0 else 2
theorem show_ok {ps : List Pik} (h : ps.all Pik.ok = true) : showT ps = S (ps.flatMap pikT) ∧ showE ps = 0 := ⟨if_pos h, if_pos h⟩
theorem show_bad {ps : List Pik} {x : Pik} (hx : x ∈ ps) (h : Pik.ok x = false) : showT ps = ⟨#[]⟩ ∧ showE ps = 2 := by
 have : ¬ ps.all Pik.ok = true := fun ha => by
  have := List.all_eq_true.1 ha x hx
  rw [h] at this; cases this
 exact ⟨if_neg this, if_neg this⟩
theorem pok_parts {x : Pik} (h : Pik.ok x = true) : x.nm.length ≤ 100 ∧ x.v.ok = true := by
 unfold Pik.ok at h
 rw [Bool.and_eq_true] at h
 exact ⟨by have := (name_len h.1).2.1; omega, h.2⟩
end Go
namespace Go.Proofs.YtbgimpeklblcjaaGreatDoor
open Go.RowKit Go.Maps
def EsRel (ps : List Pik) (w : World) (i : Value) (wr : World) : Prop :=
 ∃ k : Nat, k ≤ ps.length ∧ i = .int .i64 (k : Int) ∧ (∀ j (h : j < ps.length), j < k → Pik.ok ps[j] = true) ∧ Below w.heap.size w wr
set_option maxRecDepth 100000 in
set_option maxHeartbeats 4000000 in
theorem exShow_any (v : Value) (ps : List Pik) (w : World) (hp : Piks w v ps) (hE : EnvI w) (hs : ∀ x ∈ ps, x.v.p.size ≤ 300) (hn : ps.length ≤ 1000) :
  Calls Tryz.prog 15 #[v] w fun e w' => e = .returned (.tuple #[.string (showT ps), .int .i64 (showE ps)]) ∧ Below w.heap.size w w' := by
 obtain ⟨a0, cap0, rfl⟩ := hp.len
 have HP := Lib.hid hp
 have HE := Lib.hid hE
 have HS := Lib.hid hs
 clear hp hE hs
 go_enter Tryz.func15, Tryz.ntmps15
 go_wp2_with fail
 go_loopw [8] (fun i wr => EsRel ps w i wr) (fun i _ => ps.length - (intOf i).toNat)
 case atStart => exact ⟨0, Nat.zero_le _, rfl, fun j _ h => absurd h (Nat.not_lt_zero _), Below.refl _ _⟩
 case round =>
  obtain ⟨k, hk, rfl, hall, hb⟩ := hrel
  have HA := Lib.hid hall
  have HB := Lib.hid hb
  clear hall
  by_cases hlt : k < ps.length
  ·have i0 : (0 : Int) ≤ (k : Int) := by omega
   have i1 : (k : Int) < (ps.length : Int) := by omega
   obtain ⟨bx, ox, rfl, hbx, hcp⟩ := HP.out.row hb hlt
   obtain ⟨c0, c1, c2, c3, c4⟩ := hcp k hlt
   have HM := Lib.hid (List.getElem_mem hlt)
   have HNx : Hid (Pik.ok ps[k] = true → ∀ j (h : j < ps.length), j < k + 1 → Pik.ok ps[j] = true) := by
    show _ → ∀ _, _
    intro h0 j hj hjk
    rcases Nat.lt_succ_iff_lt_or_eq.1 hjk with h | rfl
    ·exact HA.out j hj h
    ·exact h0
   generalize (ps[k]'hlt) = x at c0 c1 c2 c3 c4 HM HNx
   have hwk : IntKind.i64.wrap ((k : Int) + 1) = (k : Int) + 1 := by rw [IntKind.wrap_i64]; omega
   have hal := (Below.refl wr.heap.size wr).alloc (Nat.le_refl _) (.cells #[.string x.name, .int .i64 x.v.a, .int .i64 x.v.b, .int .i64 x.v.c, .string x.v.p] 43)
   have hx1 := Below.refl (wr.heap.size + 1) (wr.alloc (.cells #[.string x.name, .int .i64 x.v.a, .int .i64 x.v.b, .int .i64 x.v.c, .string x.v.p] 43))
   have d0 := box_cells hx1 0
   have d1 := box_cells hx1 1
   have d2 := box_cells hx1 2
   have d3 := box_cells hx1 3
   have d4 := box_cells hx1 4
   simp only [List.getElem?_toArray, List.getElem?_cons_zero, List.getElem?_cons_succ] at d0 d1 d2 d3 d4
   have HBa := Lib.hid (below_then hb hal)
   obtain ⟨r, hr⟩ : ∃ r, nameOk x.name.data.toList = r := ⟨_, rfl⟩
   have HNm := Lib.hid (fun W => lname_as x.name r hr W)
   have HR := Lib.hid hr
   clear hcp hal hx1 hb hr
   go_wp2_with fail
   refine (HNm.out _).mono ?_
   rintro e w2 ⟨rfl, rfl⟩
   cases r
   case false =>
    have HF := Lib.hid (show_bad HM.out (by unfold Pik.ok; rw [show nameOk x.nm = false from HR.out]; rfl))
    clear d0 d1 d2 d3 d4 c0 c1 c2 c3 c4
    go_wp2_with fail
    go_ret2
    exact ⟨by rw [HF.out.1, HF.out.2]; rfl, HBa.out⟩
   obtain ⟨q, hq⟩ : ∃ q, x.v.ok = q := ⟨_, rfl⟩
   have HQ := Lib.hid hq
   cases q
   case false =>
    have HCk := Lib.hid (checkO_as x.v 40 (by rw [hq]; rfl) _ (HE.out.env.below HBa.out) (HS.out x HM.out))
    have HF := Lib.hid (show_bad HM.out (by unfold Pik.ok; rw [hq, Bool.and_false]))
    clear hq
    go_wp2_with fail
    refine HCk.out.mono ?_
    rintro e w3 ⟨rfl, hb3⟩
    have HB3 := Lib.hid (below_then HBa.out hb3)
    clear hb3
    go_wp2_with fail
    go_ret2
    exact ⟨by rw [HF.out.1, HF.out.2]; rfl, HB3.out⟩
   have HCk := Lib.hid (checkO_as x.v 0 (by rw [hq]; rfl) _ (HE.out.env.below HBa.out) (HS.out x HM.out))
   have HNy := Lib.hid (HNx.out (by unfold Pik.ok; rw [hq, show nameOk x.nm = true from HR.out]; rfl))
   clear hq
   go_wp2_with fail
   refine HCk.out.mono ?_
   rintro e w3 ⟨rfl, hb3⟩
   have HB3 := Lib.hid (below_then HBa.out hb3)
   clear hb3 d0 d1 d2 d3 d4 c0 c1 c2 c3 c4
   go_wp2_with fail
   go_roundw
   case rel => exact ⟨k + 1, hlt, by go_num, HNy.out, HB3.out⟩
   case measure => simp [intOf]; omega
  ·have i1 : decide (k < ps.length) = false := decide_eq_false hlt
   have hall : ps.all Pik.ok = true := List.all_eq_true.2 fun x hx => by
    obtain ⟨j, hj, rfl⟩ := List.getElem_of_mem hx
    exact HA.out j hj (by omega)
   have hok : ∀ x ∈ ps, Pik.ok x = true := List.all_eq_true.1 hall
   have HF := Lib.hid (show_ok hall)
   have hlen : (ps.flatMap pikT).length ≤ 1000000000 := by
    have := flat_len (f := pikT) (m := 300) ps (fun x hx => pikT_len (pok_parts (hok x hx)).1 (pok_parts (hok x hx)).2)
    omega
   have HLn := Lib.hid (linesPick_any ps _ _ wr (HP.out.below hb (Nat.le_refl _)) (fun x hx W hW => pickT_any x W (HE.out.below (below_then hb hW)) (pok_parts (hok x hx)).1 (pok_parts (hok x hx)).2) hlen (by omega))
   clear hlt hall hok hlen hb
   go_wp2_with fail
   refine HLn.out.mono ?_
   rintro e w4 ⟨rfl, hb4⟩
   have HB4 := Lib.hid (below_then HB.out hb4)
   clear hb4
   go_wp2_with fail
   go_ret2
   exact ⟨by rw [HF.out.1, HF.out.2]; rfl, HB4.out⟩
end Go.Proofs.YtbgimpeklblcjaaGreatDoor
