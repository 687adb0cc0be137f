/- Explain: the texts of a row, one behind the other: walks. -/
import Derived.Test.YtllkiedikjgkbaaGreatDoorBuilder
import Derived.Test.YtllkiedikjgkbaaGreatDoorShelfE
import Derived.Test.YtllkiedikjgkbaaGreatDoorExRan
import Derived.Test.YtllkiedikjgkbaaGreatDoorChOffers
namespace Go
open Go.RowKit
theorem builder_on {T e : TypeId} {B b : Nat} {bs : List Value} {w w' : World} (h : Lib.IsBuilder T e B b bs w) (hb : Below w.heap.size w w') : Lib.IsBuilder T e B b bs w' := by
  have h1 : ∀ p, Lib.BuilderAt T e B b p bs w → Lib.BuilderAt T e B b p bs w' := fun p ⟨h1, v, h2, h3, h4⟩ =>
    ⟨h1, v, by rw [hb.block b (by
      rcases Nat.lt_or_ge b w.heap.size with h | h
      · exact h
      · rw [Array.getElem?_eq_none h] at h2; cases h2)]; exact h2, owns_below h3 hb, h4⟩
  exact h.imp (h1 _) (h1 _)
theorem byteCells_app (l m : List UInt8) : Lib.byteCells l ++ Lib.strCells (S m) = Lib.byteCells (l ++ m) := by
  show Lib.byteCells l ++ Lib.byteCells m = _
  unfold Lib.byteCells
  rw [List.map_append]
theorem byteCells_len (l : List UInt8) : (Lib.byteCells l).length = l.length := by unfold Lib.byteCells; rw [List.length_map]
/-- what is written of a need, an offer, a pick -/
def needT (x : Want × Value) : List UInt8 := x.1.name ++ 32 :: (showR x.1.bs ++ [10])
def offT (o : DOff) : List UInt8 := 32 :: (o.v.show ++ if o.y = true then [45] else [])
def pikT (p : Pik) : List UInt8 := p.nm ++ 32 :: (p.v.show ++ [10])
theorem flat_take {α : Type} {f : α → List UInt8} {xs : List α} {k : Nat} (hk : k < xs.length) : (xs.take (k + 1)).flatMap f = (xs.take k).flatMap f ++ f xs[k] := by
  rw [List.take_succ_eq_append_getElem hk, List.flatMap_append]; simp
theorem flat_le {α : Type} {f : α → List UInt8} {xs : List α} (k : Nat) : ((xs.take k).flatMap f).length ≤ (xs.flatMap f).length := by
  conv => rhs; rw [← List.take_append_drop k xs]
  rw [List.flatMap_append, List.length_append]; omega
end Go
namespace Go.Proofs.YtllkiedikjgkbaaGreatDoor
open Go.RowKit Go.Maps
def LnNeedRel (xs : List (Want × Value)) (w : World) (i : Value) (wr : World) : Prop :=
  ∃ k : Nat, k ≤ xs.length ∧ i = .int .i64 (k : Int) ∧ Lib.IsBuilder 160 5 w.heap.size w.heap.size (Lib.byteCells ((xs.take k).flatMap needT)) wr ∧ Below w.heap.size w wr
set_option maxRecDepth 100000 in
set_option maxHeartbeats 4000000 in
theorem linesNeed_any (xs : List (Want × Value)) (a : Option Addr) (c : Nat) (w : World) (hn : Wants w (.slice a xs.length c) xs)
    (hF : ∀ x ∈ xs, ∀ W, Below w.heap.size w W → Calls Tryz.prog 82 #[.agg #[.string (S x.1.name), x.2]] W fun e w' => e = .returned (.string (S (needT x))) ∧ Below W.heap.size W w') (hlen : (xs.flatMap needT).length ≤ 1000000000) (hm : xs.length ≤ 9223372036854775807) :
    Calls Tryz.prog 81 #[.func (.func 82) #[] #[], .slice a xs.length c] w fun e w' => e = .returned (.string (S (xs.flatMap needT))) ∧ Below w.heap.size w w' := by
  have HN := Lib.hid hn
  have HF := Lib.hid hF
  have HL := Lib.hid hlen
  have HSt := Lib.hid (Lib.fresh_isBuilder 160 5 w)
  have HB0 := Lib.hid ((Below.refl w.heap.size w).alloc (Nat.le_refl _) (.cells #[.pointer none, .slice none 0 0] 160))
  clear hn hF hlen
  go_enter Tryz.func81, Tryz.ntmps81
  go_wp2_with fail
  go_loopw [10] (fun i wr => LnNeedRel xs w i wr) (fun i _ => xs.length - (intOf i).toNat)
  case atStart => exact ⟨0, Nat.zero_le _, rfl, HSt.out, HB0.out⟩
  case round =>
    obtain ⟨k, hk, rfl, hbd, hb⟩ := hrel
    have HBd := Lib.hid hbd
    have HB := Lib.hid hb
    clear hbd
    by_cases hlt : k < xs.length
    · have i0 : (0 : Int) ≤ (k : Int) := by omega
      have i1 : (k : Int) < (xs.length : Int) := by omega
      obtain ⟨bx, ox, rfl, hbx, c0, c1⟩ := HN.out.at' hb hlt
      have HT := Lib.hid (flat_take (f := needT) hlt)
      have HM := Lib.hid (List.getElem_mem hlt)
      have HLe := Lib.hid (flat_le (f := needT) (xs := xs) (k + 1))
      generalize (xs[k]'hlt) = x at c0 c1 HT HM
      have hrv := HN.out.2 x HM.out
      obtain ⟨xn, xv⟩ := x
      obtain ⟨hbn, ra, rcap, hrv⟩ := hrv
      simp only at hrv c0 c1
      subst hrv
      have hwk : IntKind.i64.wrap ((k : Int) + 1) = (k : Int) + 1 := by rw [IntKind.wrap_i64]; omega
      have hal := (Below.refl wr.heap.size wr).alloc (Nat.le_refl _) (.cells #[.string (S xn.name), .slice ra xn.bs.length rcap] 35)
      have hx1 := Below.refl (wr.heap.size + 1) (wr.alloc (.cells #[.string (S xn.name), .slice ra xn.bs.length rcap] 35))
      have d0 := box_cells hx1 0
      have d1 := box_cells hx1 1
      simp only [List.getElem?_toArray, List.getElem?_cons_zero, List.getElem?_cons_succ] at d0 d1
      have HBa := Lib.hid (below_then hb hal)
      have HBda := Lib.hid (builder_on HBd.out hal)
      have HFx := Lib.hid (fun W (h : Below (wr.alloc (.cells #[.string (S xn.name), .slice ra xn.bs.length rcap] 35)).heap.size (wr.alloc (.cells #[.string (S xn.name), .slice ra xn.bs.length rcap] 35)) W) => HF.out _ HM.out W (below_then (below_then hb hal) h))
      clear hal hx1 hb
      go_wp2_with fail
      refine (HFx.out _ (Below.refl _ _)).mono ?_
      rintro e w2 ⟨rfl, hb2⟩
      have HB2 := Lib.hid (below_then HBa.out hb2)
      have HW := Lib.hid (writeString_any w.heap.size w.heap.size _ (S (needT (xn, .slice ra xn.bs.length rcap))) w2 (builder_on HBda.out hb2) (by
        have h1 := HLe.out
        have h2 := HL.out
        rw [HT.out, List.length_append] at h1
        rw [byteCells_len, show (S (needT (xn, .slice ra xn.bs.length rcap))).size = (needT (xn, .slice ra xn.bs.length rcap)).length from by simp [S, ByteArray.size]]; omega) HB2.out.size)
      have HBx := HB2.out
      clear d0 d1 c0 c1 hb2
      go_wp2_with fail
      refine HW.out.mono ?_
      rintro e w3 ⟨rfl, hbd3, hb3⟩
      rw [byteCells_app, ← HT.out] at hbd3
      have HBd3 := Lib.hid hbd3
      have HB3 := Lib.hid (HBx.trans hb3)
      clear hbd3 hb3 HBx
      go_wp2_with fail
      go_roundw
      case rel => exact ⟨k + 1, hlt, by go_num, HBd3.out, HB3.out⟩
      case measure => simp [intOf]; omega
    · have i1 : decide (k < xs.length) = false := decide_eq_false hlt
      have hke : xs.take k = xs := List.take_of_length_le (by omega)
      have hbd := HBd.out
      rw [hke] at hbd
      have HSs := Lib.hid (Tryz.Builder_String_any w.heap.size w.heap.size _ wr hbd HB.out.size)
      clear hlt hke hbd hb
      go_wp2_with fail
      refine HSs.out.mono ?_
      rintro e w4 ⟨rfl, hb4⟩
      have HB4 := Lib.hid (HB.out.trans hb4)
      clear hb4
      go_wp2_with fail
      go_ret
      exact ⟨rfl, HB4.out⟩
def LnOfferRel (xs : List (DOff)) (w : World) (i : Value) (wr : World) : Prop :=
  ∃ k : Nat, k ≤ xs.length ∧ i = .int .i64 (k : Int) ∧ Lib.IsBuilder 160 5 w.heap.size w.heap.size (Lib.byteCells ((xs.take k).flatMap offT)) wr ∧ Below w.heap.size w wr
set_option maxRecDepth 100000 in
set_option maxHeartbeats 4000000 in
theorem linesOffer_any (xs : List (DOff)) (a : Option Addr) (c : Nat) (w : World) (hn : Offs w (.slice a xs.length c) xs)
    (hF : ∀ x ∈ xs, ∀ W, Below w.heap.size w W → Calls Tryz.prog 84 #[.agg #[.int .i64 x.v.a, .int .i64 x.v.b, .int .i64 x.v.c, .string x.v.p, .bool x.y, x.nv]] W fun e w' => e = .returned (.string (S (offT x))) ∧ Below W.heap.size W w') (hlen : (xs.flatMap offT).length ≤ 1000000000) (hm : xs.length ≤ 9223372036854775807) :
    Calls Tryz.prog 83 #[.func (.func 84) #[] #[], .slice a xs.length c] w fun e w' => e = .returned (.string (S (xs.flatMap offT))) ∧ Below w.heap.size w w' := by
  have HN := Lib.hid hn
  have HF := Lib.hid hF
  have HL := Lib.hid hlen
  have HSt := Lib.hid (Lib.fresh_isBuilder 160 5 w)
  have HB0 := Lib.hid ((Below.refl w.heap.size w).alloc (Nat.le_refl _) (.cells #[.pointer none, .slice none 0 0] 160))
  clear hn hF hlen
  go_enter Tryz.func83, Tryz.ntmps83
  go_wp2_with fail
  go_loopw [10] (fun i wr => LnOfferRel xs w i wr) (fun i _ => xs.length - (intOf i).toNat)
  case atStart => exact ⟨0, Nat.zero_le _, rfl, HSt.out, HB0.out⟩
  case round =>
    obtain ⟨k, hk, rfl, hbd, hb⟩ := hrel
    have HBd := Lib.hid hbd
    have HB := Lib.hid hb
    clear hbd
    by_cases hlt : k < xs.length
    · have i0 : (0 : Int) ≤ (k : Int) := by omega
      have i1 : (k : Int) < (xs.length : Int) := by omega
      obtain ⟨bx, ox, rfl, hbx, c0, c1, c2, c3, c4, c5⟩ := HN.out.1.at' hb hlt
      have HT := Lib.hid (flat_take (f := offT) hlt)
      have HM := Lib.hid (List.getElem_mem hlt)
      have HLe := Lib.hid (flat_le (f := offT) (xs := xs) (k + 1))
      generalize (xs[k]'hlt) = x at c0 c1 c2 c3 c4 c5 HT HM
      obtain ⟨xv, xy, xns, xna, xnc⟩ := x
      simp only [DOff.nv] at c0 c1 c2 c3 c4 c5
      have hwk : IntKind.i64.wrap ((k : Int) + 1) = (k : Int) + 1 := by rw [IntKind.wrap_i64]; omega
      have hal := (Below.refl wr.heap.size wr).alloc (Nat.le_refl _) (.cells #[.int .i64 xv.a, .int .i64 xv.b, .int .i64 xv.c, .string xv.p, .bool xy, .slice xna xns.length xnc] 39)
      have hx1 := Below.refl (wr.heap.size + 1) (wr.alloc (.cells #[.int .i64 xv.a, .int .i64 xv.b, .int .i64 xv.c, .string xv.p, .bool xy, .slice xna xns.length xnc] 39))
      have d0 := box_cells hx1 0
      have d1 := box_cells hx1 1
      have d2 := box_cells hx1 2
      have d3 := box_cells hx1 3
      have d4 := box_cells hx1 4
      have d5 := box_cells hx1 5
      simp only [List.getElem?_toArray, List.getElem?_cons_zero, List.getElem?_cons_succ] at d0 d1 d2 d3 d4 d5
      have HBa := Lib.hid (below_then hb hal)
      have HBda := Lib.hid (builder_on HBd.out hal)
      have HFx := Lib.hid (fun W (h : Below (wr.alloc (.cells #[.int .i64 xv.a, .int .i64 xv.b, .int .i64 xv.c, .string xv.p, .bool xy, .slice xna xns.length xnc] 39)).heap.size (wr.alloc (.cells #[.int .i64 xv.a, .int .i64 xv.b, .int .i64 xv.c, .string xv.p, .bool xy, .slice xna xns.length xnc] 39)) W) => HF.out _ HM.out W (below_then (below_then hb hal) h))
      clear hal hx1 hb
      go_wp2_with fail
      refine (HFx.out _ (Below.refl _ _)).mono ?_
      rintro e w2 ⟨rfl, hb2⟩
      have HB2 := Lib.hid (below_then HBa.out hb2)
      have HW := Lib.hid (writeString_any w.heap.size w.heap.size _ (S (offT ⟨xv, xy, xns, xna, xnc⟩)) w2 (builder_on HBda.out hb2) (by
        have h1 := HLe.out
        have h2 := HL.out
        rw [HT.out, List.length_append] at h1
        rw [byteCells_len, show (S (offT ⟨xv, xy, xns, xna, xnc⟩)).size = (offT ⟨xv, xy, xns, xna, xnc⟩).length from by simp [S, ByteArray.size]]; omega) HB2.out.size)
      have HBx := HB2.out
      clear d0 d1 d2 d3 d4 d5 c0 c1 c2 c3 c4 c5 hb2
      go_wp2_with fail
      refine HW.out.mono ?_
      rintro e w3 ⟨rfl, hbd3, hb3⟩
      rw [byteCells_app, ← HT.out] at hbd3
      have HBd3 := Lib.hid hbd3
      have HB3 := Lib.hid (HBx.trans hb3)
      clear hbd3 hb3 HBx
      go_wp2_with fail
      go_roundw
      case rel => exact ⟨k + 1, hlt, by go_num, HBd3.out, HB3.out⟩
      case measure => simp [intOf]; omega
    · have i1 : decide (k < xs.length) = false := decide_eq_false hlt
      have hke : xs.take k = xs := List.take_of_length_le (by omega)
      have hbd := HBd.out
      rw [hke] at hbd
      have HSs := Lib.hid (Tryz.Builder_String_any w.heap.size w.heap.size _ wr hbd HB.out.size)
      clear hlt hke hbd hb
      go_wp2_with fail
      refine HSs.out.mono ?_
      rintro e w4 ⟨rfl, hb4⟩
      have HB4 := Lib.hid (HB.out.trans hb4)
      clear hb4
      go_wp2_with fail
      go_ret
      exact ⟨rfl, HB4.out⟩
def LnPickRel (xs : List (Pik)) (w : World) (i : Value) (wr : World) : Prop :=
  ∃ k : Nat, k ≤ xs.length ∧ i = .int .i64 (k : Int) ∧ Lib.IsBuilder 160 5 w.heap.size w.heap.size (Lib.byteCells ((xs.take k).flatMap pikT)) wr ∧ Below w.heap.size w wr
set_option maxRecDepth 100000 in
set_option maxHeartbeats 4000000 in
theorem linesPick_any (xs : List (Pik)) (a : Option Addr) (c : Nat) (w : World) (hn : Piks w (.slice a xs.length c) xs)
    (hF : ∀ x ∈ xs, ∀ W, Below w.heap.size w W → Calls Tryz.prog 90 #[.agg #[.string x.name, .int .i64 x.v.a, .int .i64 x.v.b, .int .i64 x.v.c, .string x.v.p]] W fun e w' => e = .returned (.string (S (pikT x))) ∧ Below W.heap.size W w') (hlen : (xs.flatMap pikT).length ≤ 1000000000) (hm : xs.length ≤ 9223372036854775807) :
    Calls Tryz.prog 89 #[.func (.func 90) #[] #[], .slice a xs.length c] w fun e w' => e = .returned (.string (S (xs.flatMap pikT))) ∧ Below w.heap.size w w' := by
  have HN := Lib.hid hn
  have HF := Lib.hid hF
  have HL := Lib.hid hlen
  have HSt := Lib.hid (Lib.fresh_isBuilder 160 5 w)
  have HB0 := Lib.hid ((Below.refl w.heap.size w).alloc (Nat.le_refl _) (.cells #[.pointer none, .slice none 0 0] 160))
  clear hn hF hlen
  go_enter Tryz.func89, Tryz.ntmps89
  go_wp2_with fail
  go_loopw [10] (fun i wr => LnPickRel xs w i wr) (fun i _ => xs.length - (intOf i).toNat)
  case atStart => exact ⟨0, Nat.zero_le _, rfl, HSt.out, HB0.out⟩
  case round =>
    obtain ⟨k, hk, rfl, hbd, hb⟩ := hrel
    have HBd := Lib.hid hbd
    have HB := Lib.hid hb
    clear hbd
    by_cases hlt : k < xs.length
    · have i0 : (0 : Int) ≤ (k : Int) := by omega
      have i1 : (k : Int) < (xs.length : Int) := by omega
      obtain ⟨bx, ox, rfl, hbx, hcp⟩ := HN.out.row hb hlt
      obtain ⟨c0, c1, c2, c3, c4⟩ := hcp k hlt
      have HT := Lib.hid (flat_take (f := pikT) hlt)
      have HM := Lib.hid (List.getElem_mem hlt)
      have HLe := Lib.hid (flat_le (f := pikT) (xs := xs) (k + 1))
      generalize (xs[k]'hlt) = x at c0 c1 c2 c3 c4 HT HM
      have hwk : IntKind.i64.wrap ((k : Int) + 1) = (k : Int) + 1 := by rw [IntKind.wrap_i64]; omega
      have hal := (Below.refl wr.heap.size wr).alloc (Nat.le_refl _) (.cells #[.string x.name, .int .i64 x.v.a, .int .i64 x.v.b, .int .i64 x.v.c, .string x.v.p] 45)
      have hx1 := Below.refl (wr.heap.size + 1) (wr.alloc (.cells #[.string x.name, .int .i64 x.v.a, .int .i64 x.v.b, .int .i64 x.v.c, .string x.v.p] 45))
      have d0 := box_cells hx1 0
      have d1 := box_cells hx1 1
      have d2 := box_cells hx1 2
      have d3 := box_cells hx1 3
      have d4 := box_cells hx1 4
      simp only [List.getElem?_toArray, List.getElem?_cons_zero, List.getElem?_cons_succ] at d0 d1 d2 d3 d4
      have HBa := Lib.hid (below_then hb hal)
      have HBda := Lib.hid (builder_on HBd.out hal)
      have HFx := Lib.hid (fun W (h : Below (wr.alloc (.cells #[.string x.name, .int .i64 x.v.a, .int .i64 x.v.b, .int .i64 x.v.c, .string x.v.p] 45)).heap.size (wr.alloc (.cells #[.string x.name, .int .i64 x.v.a, .int .i64 x.v.b, .int .i64 x.v.c, .string x.v.p] 45)) W) => HF.out _ HM.out W (below_then (below_then hb hal) h))
      clear hcp hal hx1 hb
      go_wp2_with fail
      refine (HFx.out _ (Below.refl _ _)).mono ?_
      rintro e w2 ⟨rfl, hb2⟩
      have HB2 := Lib.hid (below_then HBa.out hb2)
      have HW := Lib.hid (writeString_any w.heap.size w.heap.size _ (S (pikT x)) w2 (builder_on HBda.out hb2) (by
        have h1 := HLe.out
        have h2 := HL.out
        rw [HT.out, List.length_append] at h1
        rw [byteCells_len, show (S (pikT x)).size = (pikT x).length from by simp [S, ByteArray.size]]; omega) HB2.out.size)
      have HBx := HB2.out
      clear d0 d1 d2 d3 d4 c0 c1 c2 c3 c4 hb2
      go_wp2_with fail
      refine HW.out.mono ?_
      rintro e w3 ⟨rfl, hbd3, hb3⟩
      rw [byteCells_app, ← HT.out] at hbd3
      have HBd3 := Lib.hid hbd3
      have HB3 := Lib.hid (HBx.trans hb3)
      clear hbd3 hb3 HBx
      go_wp2_with fail
      go_roundw
      case rel => exact ⟨k + 1, hlt, by go_num, HBd3.out, HB3.out⟩
      case measure => simp [intOf]; omega
    · have i1 : decide (k < xs.length) = false := decide_eq_false hlt
      have hke : xs.take k = xs := List.take_of_length_le (by omega)
      have hbd := HBd.out
      rw [hke] at hbd
      have HSs := Lib.hid (Tryz.Builder_String_any w.heap.size w.heap.size _ wr hbd HB.out.size)
      clear hlt hke hbd hb
      go_wp2_with fail
      refine HSs.out.mono ?_
      rintro e w4 ⟨rfl, hb4⟩
      have HB4 := Lib.hid (HB.out.trans hb4)
      clear hb4
      go_wp2_with fail
      go_ret
      exact ⟨rfl, HB4.out⟩
end Go.Proofs.YtllkiedikjgkbaaGreatDoor
