/- The reference of Solve: ways, needed, pick: walks. The reference of Solve: are all needs of what is taken met: the walk. The reference of Solve: is all that is taken asked for, or needed: the walk. -/
import Derived.Test.YtbgimpeklblcjaaGreatDoorSolWalks
import Derived.Test.YtbgimpeklblcjaaGreatDoorRanRef3
import Derived.Test.YtbgimpeklblcjaaGreatDoorBase
import Derived.Laws.ResultCell
import Derived.Laws.IdiomCopy
import Derived.Test.YtbgimpeklblcjaaGreatDoorChOffers
import Derived.Deep.LoopGhost
namespace Go
open Go.RowKit
/-- ways in memory -/
def WayRow (w : World) (v : Value) (ws : List Nat) : Prop := Row w 1 v ws.length (ws.map fun a : Nat => Value.int .i64 (a : Int))
theorem WayRow.below {w w' : World} {v : Value} {ws : List Nat} (h : WayRow w v ws) {B : Nat} (hb : Below B w w') (hB : w.heap.size ≤ B) : WayRow w' v ws := Row.below h hb hB
theorem WayRow.len {w : World} {v : Value} {ws : List Nat} (h : WayRow w v ws) : ws.length ≤ maxLen ∧ ∃ a cap, v = .slice a ws.length cap := by
 obtain ⟨_, h2, ⟨a, cap, h3, h4, _⟩ | ⟨b, off, cap, h3, _⟩⟩ := h
 ·exact ⟨h2, a, cap, by rw [h3, h4]⟩
 ·exact ⟨h2, _, cap, h3⟩
theorem WayRow.at' {w w' : World} {a : Option Addr} {cap : Nat} {ws : List Nat} (h : WayRow w (.slice a ws.length cap) ws) (hb : Below w.heap.size w w') {k x : Nat} (hx : ws[k]? = some x) :
  ∃ b off, a = some ⟨b, off, none⟩ ∧ b < w.heap.size ∧ w'.cell? ⟨b, off + k, none⟩ = some (.int .i64 (x : Int)) := by
 have hk := (List.getElem?_eq_some_iff.1 hx).1
 obtain ⟨h1, h2, ⟨a', cap', h3, h4, _⟩ | ⟨b, off, cap', h3, h4, h5, h6⟩⟩ := h
 ·omega
 ·injection h3 with h3 _ _
  refine ⟨b, off, h3, h5, ?_⟩
  rw [hb.cell (p := ⟨b, off + k, none⟩) h5, h6 k (by omega), List.getElem?_map, hx]; rfl
/-- an offer laid into a block -/
theorem set6_cells {W : World} {b : Nat} {x0 x1 x2 x3 x4 x5 : Value} (c0 : W.cell? ⟨b, 0, none⟩ = some x0) (c1 : W.cell? ⟨b, 1, none⟩ = some x1) (c2 : W.cell? ⟨b, 2, none⟩ = some x2) (c3 : W.cell? ⟨b, 3, none⟩ = some x3) (c4 : W.cell? ⟨b, 4, none⟩ = some x4) (c5 : W.cell? ⟨b, 5, none⟩ = some x5) (v0 v1 v2 v3 v4 v5 : Value) {W' : World}
  (hW : W' = (((((W.setCell ⟨b, 0, none⟩ v0).setCell ⟨b, 1, none⟩ v1).setCell ⟨b, 2, none⟩ v2).setCell ⟨b, 3, none⟩ v3).setCell ⟨b, 4, none⟩ v4).setCell ⟨b, 5, none⟩ v5) :
  W'.cell? ⟨b, 0, none⟩ = some v0 ∧ W'.cell? ⟨b, 1, none⟩ = some v1 ∧ W'.cell? ⟨b, 2, none⟩ = some v2 ∧ W'.cell? ⟨b, 3, none⟩ = some v3 ∧ W'.cell? ⟨b, 4, none⟩ = some v4 ∧ W'.cell? ⟨b, 5, none⟩ = some v5 := by
 have h := World.cell?_setCells_in b [v0, v1, v2, v3, v4, v5] 0 W (fun j hj => by
  match j, hj with
  | 0, _ => simp [c0]
  | 1, _ => simp [c1]
  | 2, _ => simp [c2]
  | 3, _ => simp [c3]
  | 4, _ => simp [c4]
  | 5, _ => simp [c5]
  | n + 6, h => simp at h; omega)
 subst hW
 exact ⟨h 0 (by simp), h 1 (by simp), h 2 (by simp), h 3 (by simp), h 4 (by simp), h 5 (by simp)⟩
theorem set6_below {B : Nat} {a W : World} (h : Below B a W) {b : Nat} (hb : B ≤ b) (v0 v1 v2 v3 v4 v5 : Value) {W' : World} (hW : W' = (((((W.setCell ⟨b, 0, none⟩ v0).setCell ⟨b, 1, none⟩ v1).setCell ⟨b, 2, none⟩ v2).setCell ⟨b, 3, none⟩ v3).setCell ⟨b, 4, none⟩ v4).setCell ⟨b, 5, none⟩ v5) : Below B a W' := by
 subst hW
 exact (((((h.setCell hb v0).setCell hb v1).setCell hb v2).setCell hb v3).setCell hb v4).setCell hb v5
/-- what an assignment takes of a name -/
def PickR (w : World) (ts : List DPack) (ws : List Nat) (nm : Nam) (r : Value) (b : Bool) : Prop :=
 (b = true ∧ ∃ (o : DOff) (i : Nat), i < ts.length ∧ namL (ppL ts) i = nm ∧ takenL (ppL ts) ws i = some o.po ∧ r = o.val ∧ o.ok w) ∨
 (b = false ∧ r = .agg #[.int .i64 0, .int .i64 0, .int .i64 0, .string ⟨#[]⟩, .bool false, .slice none 0 0] ∧ ∀ i, i < ts.length → namL (ppL ts) i = nm → takenL (ppL ts) ws i = none)
theorem nam_at (ts : List DPack) {i : Nat} (h : i < ts.length) : namL (ppL ts) i = ts[i].name.data.toList := by
 have h1 : i < (ppL ts).length := by rw [ppL_len]; exact h
 rw [namL_at h1, ppL_at h1 h]; rfl
theorem taken_atP {ts : List DPack} {ws : List Nat} {i a : Nat} (h : i < ts.length) (ha : ws[i]? = some a) : takenL (ppL ts) ws i = (ts[i].os[a]?).map DOff.po := by
 have h1 : i < (ppL ts).length := by rw [ppL_len]; exact h
 unfold takenL
 rw [List.getElem?_eq_getElem h1, ha, ppL_at h1 h]
 show (List.map DOff.po ts[i].os)[a]? = _
 rw [List.getElem?_map]
end Go
namespace Go.Proofs.YtbgimpeklblcjaaGreatDoor
open Go.RowKit Go.Maps
set_option maxRecDepth 100000 in
set_option maxHeartbeats 2000000 in
theorem rways_as (nm : ByteArray) (oa : Option Addr) (n oc : Nat) (nv : Value) (ns : List (Want × Value)) (m : Nat) (w : World) (hn : Wants w nv ns) (hm : m = n + if askedB ns nm = true then 0 else 1) (hx : n ≤ 1000000) :
  Calls Tryz.prog 51 #[.agg #[.string nm, .slice oa n oc], nv] w fun e w' => e = .returned (.int .i64 (m : Int)) ∧ Below w.heap.size w w' := by
 have hx1 := Below.refl (w.heap.size + 1) (w.alloc (.cells #[.string nm, .slice oa n oc] 52))
 have hW1 := below_first hx1
 have b0 := box_cells hx1 0
 simp only [List.getElem?_toArray, List.getElem?_cons_zero] at b0
 obtain ⟨ak, hak⟩ : ∃ b, askedB ns nm = b := ⟨_, rfl⟩
 have HA := Lib.hid (rasked_any nv ns nm _ (hn.below hW1 (Nat.le_refl _)))
 rw [hak] at HA hm
 have HX := Lib.hid hx1
 have HM := Lib.hid hm
 have HW := Lib.hid hW1
 clear hn hak hx1 hm hW1
 go_enter Tryz.func51, Tryz.ntmps51
 go_wp2_with fail
 refine HA.out.mono ?_
 rintro e w2 ⟨rfl, hb2⟩
 have hx2 := box_then HX.out hb2
 have d1 := box_cells hx2 1
 simp only [List.getElem?_toArray, List.getElem?_cons_zero, List.getElem?_cons_succ] at d1
 have hb3 := HW.out.trans (hb2.mono HW.out.size)
 clear hx2 hb2 b0
 cases ak
 ·have h := HM.out
  simp only [Bool.false_eq_true, if_false] at h
  subst h
  go_wp2_with fail
  go_ret
  exact ⟨by congr 2, hb3⟩
 ·have h := HM.out
  simp only [if_true, Nat.add_zero] at h
  subst h
  go_wp2_with fail
  go_ret
  exact ⟨rfl, hb3⟩
def NdPost (o : DOff) (nm : Nam) (w : World) (e : Ending) (w' : World) : Prop := (∃ b, e = .returned (.bool b) ∧ (b = true ↔ ∃ n ∈ o.po.ws, n.name = nm)) ∧ Below w.heap.size w w'
def PkPost (ts : List DPack) (ws : List Nat) (nm : Nam) (w : World) (e : Ending) (w' : World) : Prop := (∃ r b, e = .returned (.tuple #[r, .bool b]) ∧ PickR w ts ws nm r b) ∧ Below w.heap.size w w'
def NdlRel (o : DOff) (nm : Nam) (w : World) (i : Value) (wr : World) : Prop :=
 ∃ k : Nat, k ≤ o.ns.length ∧ i = .int .i64 (k : Int) ∧ (∀ j (h : j < o.ns.length), j < k → o.ns[j].1.name ≠ nm) ∧ Below (w.heap.size + 1) (w.alloc (.cells #[.int .i64 o.v.a, .int .i64 o.v.b, .int .i64 o.v.c, .string o.v.p, .bool o.y, o.nv] 55)) wr
set_option maxRecDepth 100000 in
set_option maxHeartbeats 2000000 in
theorem rneeded_any (o : DOff) (nm : Nam) (w : World) (ho : o.ok w) :
  Calls Tryz.prog 91 #[o.val, .string (S nm)] w (NdPost o nm w) := by
 obtain ⟨ov, oy, ons, ona, onc⟩ := o
 have HV := Lib.hid ho.1
 have hmx2 : ons.length ≤ 9223372036854775807 := Nat.le_trans ho.1.len.1 (by decide)
 simp only [DOff.nv, DOff.val] at HV ⊢
 clear ho
 go_enter Tryz.func91, Tryz.ntmps91
 go_wp2_with fail
 go_loopw [5] (fun i wr => NdlRel ⟨ov, oy, ons, ona, onc⟩ nm w i wr) (fun i _ => ons.length - (intOf i).toNat)
 case atStart => exact ⟨0, Nat.zero_le _, rfl, fun j _ h => absurd h (Nat.not_lt_zero _), Below.refl _ _⟩
 case round =>
  obtain ⟨k, hk, rfl, hall, hb⟩ := hrel
  have HA := Lib.hid hall
  have hW := below_first hb
  have d5 := box_cells hb 5
  simp only [List.getElem?_toArray, List.getElem?_cons_zero, List.getElem?_cons_succ, DOff.nv] at d5
  simp only at hk
  clear hall
  by_cases hlt : k < ons.length
  ·have i0 : (0 : Int) ≤ (k : Int) := by omega
   have i1 : (k : Int) < (ons.length : Int) := by omega
   obtain ⟨bx, ox, rfl, hbx, c0, _⟩ := HV.out.at' hW hlt
   have HM := Lib.hid (List.getElem_mem hlt)
   obtain ⟨x, hxe⟩ : ∃ x, ons[k] = x := ⟨_, rfl⟩
   rw [hxe] at c0 HM
   have HX := Lib.hid hxe
   clear hxe
   by_cases he : x.1.name = nm
   ·have e1 : ((S x.1.name).toList == (S nm).toList) = true := by rw [he]; exact beq_self_eq_true _
    have hp : (S x.1.name).toList = (S nm).toList := beq_iff_eq.1 e1
    have HF : Hid (∃ n ∈ (DOff.po ⟨ov, oy, ons, some ⟨bx, ox, none⟩, onc⟩).ws, n.name = nm) := ⟨x.1, List.mem_map.2 ⟨x, HM.out, rfl⟩, he⟩
    clear he
    go_wp2_with fail
    go_ret
    exact ⟨⟨true, rfl, fun _ => HF.out, fun _ => rfl⟩, hW⟩
   ·have e1 : ((S x.1.name).toList == (S nm).toList) = false := by rw [S_toList, S_toList]; exact beq_eq_false_iff_ne.2 he
    have hp : ¬ (S x.1.name).toList = (S nm).toList := beq_eq_false_iff_ne.1 e1
    have HNe := Lib.hid he
    clear he
    go_wp2_with fail
    go_roundw
    case rel =>
     refine ⟨k + 1, hlt, by go_num, fun j h hj => ?_, hb⟩
     simp only at h
     by_cases hjk : j < k
     ·exact HA.out j h hjk
     ·have : j = k := by omega
      subst this
      show ons[j].1.name ≠ nm
      rw [HX.out]; exact HNe.out
    case measure => simp [intOf]; omega
  ·have q5 : decide (k < ons.length) = false := decide_eq_false hlt
   have HF : Hid (¬ ∃ n ∈ (DOff.po ⟨ov, oy, ons, ona, onc⟩).ws, n.name = nm) := by
    rintro ⟨n, hn, he⟩
    obtain ⟨x, hx, rfl⟩ := List.mem_map.1 hn
    obtain ⟨j, hj, rfl⟩ := List.getElem_of_mem hx
    exact HA.out j hj (by simp only at hj; omega) he
   clear hlt
   go_wp2_with fail
   go_ret
   exact ⟨⟨false, rfl, (fun h => by cases h), fun h => absurd h HF.out⟩, hW⟩
def PkRel (ts : List DPack) (ws : List Nat) (nm : Nam) (w : World) (i : Value) (wr : World) : Prop :=
 ∃ k : Nat, k ≤ ts.length ∧ i = .int .i64 (k : Int) ∧ (∀ j, j < k → namL (ppL ts) j = nm → takenL (ppL ts) ws j = none) ∧ Below (w.heap.size + 1) (w.alloc (.cells #[.int .i64 0, .int .i64 0, .int .i64 0, .string ⟨#[]⟩, .bool false, .slice none 0 0] 55)) wr
set_option maxRecDepth 100000 in
set_option maxHeartbeats 4000000 in
theorem rpickS_any (tv wv : Value) (ts : List DPack) (ws : List Nat) (nm : Nam) (w : World) (ht : Packs w tv ts) (hw : WayRow w wv ws) (hl : ws.length = ts.length) (hB : TabB (ppL ts)) :
  Calls Tryz.prog 54 #[tv, wv, .string (S nm)] w (PkPost ts ws nm w) := by
 obtain ⟨hmx, a0, cap0, rfl⟩ := ht.len
 obtain ⟨_, a1, cap1, rfl⟩ := hw.len
 have hmx2 : ts.length ≤ 9223372036854775807 := Nat.le_trans hmx (by decide)
 have HT := Lib.hid ht
 have HW := Lib.hid hw
 have HL := Lib.hid hl
 have HB := Lib.hid hB
 rw [hl]
 clear ht hw hmx hl hB
 go_enter Tryz.func54, Tryz.ntmps54
 go_wp2_with fail
 go_loopw [8] (fun i wr => PkRel ts ws nm w i wr) (fun i _ => ts.length - (intOf i).toNat)
 case atStart => exact ⟨0, Nat.zero_le _, rfl, fun j h => absurd h (Nat.not_lt_zero _), Below.refl _ _⟩
 case round =>
  obtain ⟨k, hk, rfl, hall, hb⟩ := hrel
  have HA := Lib.hid hall
  have hWb := below_first hb
  have d0 := box_cells hb 0
  have d1 := box_cells hb 1
  have d2 := box_cells hb 2
  have d3 := box_cells hb 3
  have d4 := box_cells hb 4
  have d5 := box_cells hb 5
  have f0 := box_free hb 0
  have f1 := box_free hb 1
  have f2 := box_free hb 2
  have f3 := box_free hb 3
  have f4 := box_free hb 4
  have f5 := box_free hb 5
  simp only [List.getElem?_toArray, List.getElem?_cons_zero, List.getElem?_cons_succ] at d0 d1 d2 d3 d4 d5
  have hz := cell_lt d0
  clear hall
  by_cases hlt : k < ts.length
  ·have i0 : (0 : Int) ≤ (k : Int) := by omega
   have i1 : (k : Int) < (ts.length : Int) := by omega
   obtain ⟨x, hx⟩ : ∃ x, ws[k]? = some x := ⟨_, List.getElem?_eq_getElem (by rw [HL.out]; exact hlt)⟩
   have htk := taken_atP hlt hx
   have hnk := nam_at ts hlt
   obtain ⟨bw, ow, rfl, hbw, g0⟩ := HW.out.at' hWb hx
   obtain ⟨bx, ox, rfl, hbx, c0, c1⟩ := HT.out.at' hWb hlt
   have HOk := Lib.hid (HT.out.2 _ (List.getElem_mem hlt)).1
   obtain ⟨⟨xn, xo, xa, xc⟩, hxe⟩ : ∃ x, ts[k] = x := ⟨_, rfl⟩
   rw [hxe] at c0 c1 htk hnk HOk
   simp only [DPack.ov] at c0 c1 htk hnk HOk
   have HK := Lib.hid (⟨htk, hnk⟩ : _ ∧ _)
   clear hxe htk hnk hx
   obtain ⟨eq, heq⟩ : ∃ b, (xn.toList == (S nm).toList) = b := ⟨_, rfl⟩
   have HNm : Hid (eq = true ↔ namL (ppL ts) k = nm) := by
    show _ ↔ _
    rw [HK.out.2, ← heq, beq_iff_eq, Lib.toList_data, S_toList]
   obtain ⟨lt, hlt2⟩ : ∃ b, decide (x < xo.length) = b := ⟨_, rfl⟩
   have HLt := Lib.hid hlt2
   cases eq
   ·have hp : ¬ xn.toList = (S nm).toList := beq_eq_false_iff_ne.1 heq
    go_wp2_with fail
    go_quiet (fail)
    go_wp2_with fail
    go_roundw
    case rel =>
     refine ⟨k + 1, hlt, by go_num, fun j hj hjn => ?_, below_drewN hb _⟩
     by_cases hjk : j < k
     ·exact HA.out j hjk hjn
     ·have : j = k := by omega
      subst this
      have := HNm.out.2 hjn
      cases this
    case measure => simp [intOf]; omega
   ·have hp : xn.toList = (S nm).toList := beq_iff_eq.1 heq
    cases lt
    ·go_wp2_with fail
     go_quiet (fail)
     go_wp2_with fail
     go_roundw
     case rel =>
      refine ⟨k + 1, hlt, by go_num, fun j hj hjn => ?_, below_drewN hb _⟩
      by_cases hjk : j < k
      ·exact HA.out j hjk hjn
      ·have : j = k := by omega
       subst this
       have h := of_decide_eq_false HLt.out
       rw [HK.out.1, List.getElem?_eq_none (by omega)]; rfl
     case measure => simp [intOf]; omega
    ·have hlt3 : x < xo.length := by have := of_decide_eq_true hlt2; omega
     have x0 : (0 : Int) ≤ (x : Int) := by omega
     have x1 : (x : Int) < (xo.length : Int) := by omega
     obtain ⟨bo, oo, rfl, hbo, e0, e1, e2, e3, e4, e5⟩ := HOk.out.1.at' hWb hlt3
     have HOo := Lib.hid (HOk.out.2 _ (List.getElem_mem hlt3))
     have HPo : Hid (takenL (ppL ts) ws k = some xo[x].po) := by show _ = _; rw [HK.out.1, List.getElem?_eq_getElem hlt3]; rfl
     obtain ⟨⟨ov, oy, ons, ona, onc⟩, hoe⟩ : ∃ x', xo[x] = x' := ⟨_, rfl⟩
     rw [hoe] at e0 e1 e2 e3 e4 e5 HOo HPo
     simp only [DOff.nv] at e0 e1 e2 e3 e4 e5
     have HN : Hid (namL (ppL ts) k = nm) := HNm.out.1 rfl
     have HLk := Lib.hid hlt
     have HFp : Hid (PickR w ts ws nm (.agg #[.int .i64 ov.a, .int .i64 ov.b, .int .i64 ov.c, .string ov.p, .bool oy, .slice ona ons.length onc]) true) :=
      .inl ⟨rfl, ⟨ov, oy, ons, ona, onc⟩, k, hlt, HN.out, HPo.out, rfl, HOo.out⟩
     clear hoe HOk HK hlt3 hlt
     go_wp2_with fail
     go_quiet (fail)
     go_wp2_with fail
     refine region_still_tail 11 (by kernel_rfl) (by kernel_rfl) ?_
     simp only [List.take_succ_cons, List.take_zero, List.drop_succ_cons, List.drop_zero]
     repeat still_step
     refine wpStill_nil ?_
     go_wp2_with fail
     (try simp only [Exit.inBlock, Exit.then])
     refine bodyPost_ret (v := .tuple #[.agg #[.int .i64 ov.a, .int .i64 ov.b, .int .i64 ov.c, .string ov.p, .bool oy, .slice ona ons.length onc], .bool true]) ?_ rfl ⟨⟨_, true, rfl, HFp.out⟩, ?_⟩
     ·rw [results_cell_tmp rfl]
      obtain ⟨g0, g1, g2, g3, g4, g5⟩ := set6_cells (W := wr.drewN (nq + 1)) (b := w.heap.size) (x0 := .int .i64 0) (x1 := .int .i64 0) (x2 := .int .i64 0) (x3 := .string ⟨#[]⟩) (x4 := .bool false) (x5 := .slice none 0 0) d0 d1 d2 d3 d4 d5 (.int .i64 ov.a) (.int .i64 ov.b) (.int .i64 ov.c) (.string ov.p) (.bool oy) (.slice ona ons.length onc) rfl
      clear d0 d1 d2 d3 d4 d5
      generalize World.setCell _ _ _ = wz at *
      go_simp
     ·exact set6_below (below_drewN hWb _) (Nat.le_refl _) _ _ _ _ _ _ rfl
  ·have q5 : decide (k < ts.length) = false := decide_eq_false hlt
   have HF : Hid (∀ i, i < ts.length → namL (ppL ts) i = nm → takenL (ppL ts) ws i = none) := fun i hi => HA.out i (by omega)
   clear hlt
   go_wp2_with fail
   (try simp only [Exit.inBlock, Exit.then])
   refine bodyPost_ret (v := .tuple #[.agg #[.int .i64 0, .int .i64 0, .int .i64 0, .string ⟨#[]⟩, .bool false, .slice none 0 0], .bool false]) ?_ rfl ⟨⟨_, false, rfl, .inr ⟨rfl, rfl, HF.out⟩⟩, ?_⟩
   ·rw [results_cell_tmp rfl]
    obtain ⟨g0, g1, g2, g3, g4, g5⟩ := set6_cells d0 d1 d2 d3 d4 d5 (.int .i64 0) (.int .i64 0) (.int .i64 0) (.string ⟨#[]⟩) (.bool false) (.slice none 0 0) rfl
    clear d0 d1 d2 d3 d4 d5
    generalize World.setCell _ _ _ = wz at *
    go_simp
   ·exact set6_below hWb (Nat.le_refl _) _ _ _ _ _ _ rfl
end Go.Proofs.YtbgimpeklblcjaaGreatDoor

namespace Go
open Go.RowKit
def ClosedAt (T : List PP) (ws : List Nat) (j : Nat) : Prop := ∀ o, takenL T ws j = some o → ∀ n ∈ o.ws, ∃ m, m < T.length ∧ namL T m = n.name ∧ metN (takenL T ws m) n = true
theorem closed_iff {T : List PP} {ws : List Nat} : ClosedL T ws ↔ ∀ j, j < T.length → ClosedAt T ws j := Iff.rfl
/-- what the region looks at -/
def CloS (b6 : Nat) (nv : Value) (bn on : Nat) (rv : Value) (b9 : Nat) (v : V4) (w0 W : World) : Prop :=
 (W.cell? ⟨b6, 5, none⟩ = some nv ∧ W.cell? ⟨bn, on, none⟩ = some rv) ∧ (W.cell? ⟨b9, 0, none⟩ = some (.int .i64 v.a) ∧ W.cell? ⟨b9, 1, none⟩ = some (.int .i64 v.b) ∧ W.cell? ⟨b9, 2, none⟩ = some (.int .i64 v.c) ∧ W.cell? ⟨b9, 3, none⟩ = some (.string v.p)) ∧ Below w0.heap.size w0 W
theorem CloS.on {b6 : Nat} {nv : Value} {bn on : Nat} {rv : Value} {b9 : Nat} {v : V4} {w0 W W' : World} (h : CloS b6 nv bn on rv b9 v w0 W) (hb : Below W.heap.size W W') : CloS b6 nv bn on rv b9 v w0 W' := by
 obtain ⟨⟨a0, a1⟩, ⟨b0, b1, b2, b3⟩, d⟩ := h
 exact ⟨⟨cell_on a0 hb, cell_on a1 hb⟩, ⟨cell_on b0 hb, cell_on b1 hb, cell_on b2 hb, cell_on b3 hb⟩, below_then d hb⟩
end Go
namespace Go.Proofs.YtbgimpeklblcjaaGreatDoor
open Go.RowKit Go.Maps
def ClRel (ts : List DPack) (ws : List Nat) (w : World) (i : Value) (wr : World) : Prop :=
 ∃ k : Nat, k ≤ ts.length ∧ i = .int .i64 (k : Int) ∧ (∀ j, j < k → ClosedAt (ppL ts) ws j) ∧ Below w.heap.size w wr
def CnRel (ts : List DPack) (ws : List Nat) (o : DOff) (w : World) (i : Value) (wr : World) : Prop :=
 ∃ m : Nat, m ≤ o.ns.length ∧ i = .int .i64 (m : Int) ∧ (∀ n ∈ o.ns.take m, ∃ j, j < (ppL ts).length ∧ namL (ppL ts) j = n.1.name ∧ metN (takenL (ppL ts) ws j) n.1 = true) ∧ Below w.heap.size w wr
set_option maxRecDepth 100000 in
set_option maxHeartbeats 8000000 in
theorem rclosed_as (tv wv : Value) (ts : List DPack) (ws : List Nat) (w : World) (ht : Packs w tv ts) (hw : WayRow w wv ws) (hl : ws.length = ts.length) (hT : TabW (ppL ts)) (hB : TabB (ppL ts)) :
  Calls Tryz.prog 52 #[tv, wv] w fun e w' => (∃ b, e = .returned (.bool b) ∧ (b = true ↔ ClosedL (ppL ts) ws)) ∧ Below w.heap.size w w' := by
 obtain ⟨hmx, a0, cap0, rfl⟩ := ht.len
 obtain ⟨_, a1, cap1, rfl⟩ := hw.len
 have hmx2 : ts.length ≤ 9223372036854775807 := Nat.le_trans hmx (by decide)
 have HT := Lib.hid ht
 have HW := Lib.hid hw
 have HL := Lib.hid hl
 have HTW := Lib.hid hT
 have HB := Lib.hid hB
 clear ht hw hmx hl hB hT
 go_enter Tryz.func52, Tryz.ntmps52
 go_wp2_with fail
 go_loopw [5] (fun i wr => ClRel ts ws w i wr) (fun i _ => ts.length - (intOf i).toNat)
 case atStart => exact ⟨0, Nat.zero_le _, rfl, fun j h => absurd h (Nat.not_lt_zero _), Below.refl _ _⟩
 case round =>
  obtain ⟨k, hk, rfl, hall, hb⟩ := hrel
  have HA := Lib.hid hall
  clear hall
  by_cases hlt : k < ts.length
  ·have i0 : (0 : Int) ≤ (k : Int) := by omega
   have i1 : (k : Int) < (ts.length : Int) := by omega
   obtain ⟨bx, ox, rfl, hbx, c0, c1⟩ := HT.out.at' hb hlt
   have hnk := nam_at ts hlt
   have hpk := rpickS_any _ _ ts ws (namL (ppL ts) k) wr (HT.out.below hb (Nat.le_refl _)) (HW.out.below hb (Nat.le_refl _)) HL.out HB.out
   rw [hnk, S_of] at hpk
   have HPk := Lib.hid hpk
   have HNk := Lib.hid hnk
   clear hpk hnk c1
   go_wp2_with fail
   refine HPk.out.mono ?_
   rintro e w2 ⟨⟨r, b, rfl, hpr⟩, hb2⟩
   have hb3 := below_then hb hb2
   rcases hpr with ⟨rfl, o, i', hi', hni, hti, rfl, hok⟩ | ⟨rfl, rfl, hno⟩
   ·have hik : i' = k := HTW.out.inj (by rw [ppL_len]; exact hi') (by rw [ppL_len]; exact hlt) (hni.trans HNk.out.symm)
    subst hik
    obtain ⟨ov, oy, ons, ona, onc⟩ := o
    have HTi := Lib.hid hti
    have hok2 := hok.1.below hb2 (Nat.le_refl _)
    simp only [DOff.nv] at hok2
    have HOk := Lib.hid hok2
    have honl : ons.length ≤ 9223372036854775807 := Nat.le_trans hok.1.len.1 (by decide)
    have hbo : ∀ n ∈ ons.map Prod.fst, n.bs.length ≤ 1000 ∧ ∀ b ∈ n.bs, b.v.p.size ≤ 300 := by
     obtain ⟨p', hp', hpo⟩ := taken_mem hti
     exact ((HB.out.os _ hp').2 _ hpo).2.2
    have HBo := Lib.hid hbo
    have hal := (Below.refl w2.heap.size w2).alloc (Nat.le_refl _) (.cells #[.int .i64 ov.a, .int .i64 ov.b, .int .i64 ov.c, .string ov.p, .bool oy, .slice ona ons.length onc] 55)
    have q5 := box_cells (Below.refl (w2.heap.size + 1) (w2.alloc (.cells #[.int .i64 ov.a, .int .i64 ov.b, .int .i64 ov.c, .string ov.p, .bool oy, .slice ona ons.length onc] 55))) 5
    simp only [List.getElem?_toArray, List.getElem?_cons_zero, List.getElem?_cons_succ] at q5
    have HQ5 := Lib.hid q5
    have HAl := Lib.hid hal
    have hb4 := below_then hb3 hal
    have HB4 := Lib.hid hb4
    simp only [DOff.val, DOff.nv]
    clear hti hni hok hok2 hbo hal c0 hb2 hb3 hb4
    go_wp2_with fail
    generalize w2.alloc (.cells #[.int .i64 ov.a, .int .i64 ov.b, .int .i64 ov.c, .string ov.p, .bool oy, .slice ona ons.length onc] 55) = w5 at *
    go_loopw [8] (fun i wy => CnRel ts ws ⟨ov, oy, ons, ona, onc⟩ w5 i wy) (fun i _ => ons.length - (intOf i).toNat)
    case atStart => exact ⟨0, Nat.zero_le _, rfl, fun n hn => by simp at hn, Below.refl _ _⟩
    case round =>
     obtain ⟨m, hm, rfl, hall, hbm⟩ := hrel
     have HAm := Lib.hid hall
     have g5 := cell_on HQ5.out hbm
     have hzg := cell_lt g5
     have hb6 := below_then HB4.out hbm
     simp only at hm
     clear hall q5
     by_cases hlt2 : m < ons.length
     ·have j0 : (0 : Int) ≤ (m : Int) := by omega
      have j1 : (m : Int) < (ons.length : Int) := by omega
      obtain ⟨by', oy2, rfl, hby, e0, e1⟩ := HOk.out.at' (below_then HAl.out hbm) hlt2
      have hmem := List.getElem_mem hlt2
      have HTm := Lib.hid (List.take_succ_eq_append_getElem hlt2)
      have hrv := HOk.out.2 _ hmem
      obtain ⟨⟨xn, xv⟩, hxe⟩ : ∃ x, ons[m] = x := ⟨_, rfl⟩
      rw [hxe] at e0 e1 hmem HTm hrv
      obtain ⟨hbn, ra, rcap, hrv⟩ := hrv
      simp only at e0 e1 hrv hbn
      subst hrv
      have HXm := Lib.hid (List.mem_map.2 ⟨_, hmem, rfl⟩ : xn ∈ ons.map Prod.fst)
      have HPm := Lib.hid (rpickS_any _ _ ts ws xn.name wr (HT.out.below hb6 (Nat.le_refl _)) (HW.out.below hb6 (Nat.le_refl _)) HL.out HB.out)
      have HE1 := Lib.hid e1
      have HG5 := Lib.hid g5
      have HBn := Lib.hid (hbn.below (below_then HAl.out hbm) (Nat.le_refl _))
      clear hxe hmem hbn
      go_wp2_with fail
      refine HPm.out.mono ?_
      rintro e w6 ⟨⟨r, b, rfl, hpr⟩, hb7⟩
      have hb8 := below_then hb6 hb7
      rcases hpr with ⟨rfl, p, i2, hi2, hni, hti, rfl, _⟩ | ⟨rfl, rfl, hno⟩
      ·obtain ⟨pv, py, pns, pna, pnc⟩ := p
       obtain ⟨r, hr⟩ : ∃ r, meetsR pv xn.bs = r := ⟨_, rfl⟩
       have HRr : Hid (metN (takenL (ppL ts) ws i2) xn = r) := by show _ = _; rw [hti]; exact hr
       have hp2 : pv.p.size ≤ 300 := by
        obtain ⟨p', hp', hpo⟩ := taken_mem hti
        exact ((HB.out.os _ hp').2 _ hpo).1
       have HI2 := Lib.hid (⟨hi2, hni⟩ : _ ∧ _)
       have hal7 := (Below.refl w6.heap.size w6).alloc (Nat.le_refl _) (.cells #[.int .i64 pv.a, .int .i64 pv.b, .int .i64 pv.c, .string pv.p, .bool py, .slice pna pns.length pnc] 55)
       have hx7 := Below.refl (w6.heap.size + 1) (w6.alloc (.cells #[.int .i64 pv.a, .int .i64 pv.b, .int .i64 pv.c, .string pv.p, .bool py, .slice pna pns.length pnc] 55))
       have v0 := box_cells hx7 0
       have v1 := box_cells hx7 1
       have v2 := box_cells hx7 2
       have v3 := box_cells hx7 3
       simp only [List.getElem?_toArray, List.getElem?_cons_zero, List.getElem?_cons_succ] at v0 v1 v2 v3
       have h67 := below_then hb7 hal7
       have u5 := cell_on HG5.out h67
       have u1 := cell_on HE1.out h67
       have hd := (Below.refl (w6.alloc (.cells #[.int .i64 pv.a, .int .i64 pv.b, .int .i64 pv.c, .string pv.p, .bool py, .slice pna pns.length pnc] 55)).heap.size (w6.alloc (.cells #[.int .i64 pv.a, .int .i64 pv.b, .int .i64 pv.c, .string pv.p, .bool py, .slice pna pns.length pnc] 55))).drew
       have hst : CloS w2.heap.size (.slice (some ⟨by', oy2, none⟩) ons.length onc) by' (oy2 + m * 2 + 1) (.slice ra xn.bs.length rcap) w6.heap.size pv (w6.alloc (.cells #[.int .i64 pv.a, .int .i64 pv.b, .int .i64 pv.c, .string pv.p, .bool py, .slice pna pns.length pnc] 55)).drew (w6.alloc (.cells #[.int .i64 pv.a, .int .i64 pv.b, .int .i64 pv.c, .string pv.p, .bool py, .slice pna pns.length pnc] 55)).drew :=
        ⟨⟨cell_on u5 hd, cell_on u1 hd⟩, ⟨cell_on v0 hd, cell_on v1 hd, cell_on v2 hd, cell_on v3 hd⟩, Below.refl _ _⟩
       have HMt : Hid (∀ W, Below (w6.alloc (.cells #[.int .i64 pv.a, .int .i64 pv.b, .int .i64 pv.c, .string pv.p, .bool py, .slice pna pns.length pnc] 55)).drew.heap.size (w6.alloc (.cells #[.int .i64 pv.a, .int .i64 pv.b, .int .i64 pv.c, .string pv.p, .bool py, .slice pna pns.length pnc] 55)).drew W → Calls Tryz.prog 88 #[.agg #[.int .i64 pv.a, .int .i64 pv.b, .int .i64 pv.c, .string pv.p], .slice ra xn.bs.length rcap] W fun e w' => e = .returned (.bool r) ∧ Below W.heap.size W w') := fun W hW => by
        have hW2 := below_then h67 (hd.trans (hW.mono hd.size))
        exact rmeetsO_as pv _ xn.bs r hr W (HBn.out.below hW2 (Nat.le_refl _)) ⟨_, _, rfl⟩ hp2 (HBo.out _ HXm.out).2 (HBo.out _ HXm.out).1
       have HD := Lib.hid hd
       have H67 := Lib.hid h67
       have HB8 := Lib.hid (below_then hb6 h67)
       have HB9 := Lib.hid (below_then hbm h67)
       simp only [DOff.val, DOff.nv]
       clear hti hni hr hal7 hx7 v0 v1 v2 v3 u5 u1 hd h67 hb8 hb7 e0 e1 g5
       go_wp2_with fail
       generalize w6.alloc (.cells #[.int .i64 pv.a, .int .i64 pv.b, .int .i64 pv.c, .string pv.p, .bool py, .slice pna pns.length pnc] 55) = w7 at *
       refine wp_region_held_drew (S := (fun W => CloS w2.heap.size (.slice (some ⟨by', oy2, none⟩) ons.length onc) by' (oy2 + m * 2 + 1) (.slice ra xn.bs.length rcap) w6.heap.size pv w7.drew W)) (by kernel_rfl) (hst) (fun hHeld => ?_)
       refine wpAnyH_take (i := 0) (v := ?_) rfl (by kernel_rfl) (by kernel_rfl) (by kernel_rfl) (fun _ _ _ h => h) (Or.inl ⟨by kernel_rfl, ?_⟩) hHeld ?_
       rotate_left
       ·(rintro W ⟨⟨e0, e1⟩, ⟨e2, e3, e4, e5⟩, _⟩; go_simp; (try with_reducible rfl))
       (try simp only [Act.put, putL])
       refine wpAnyH_take (i := 1) (v := ?_) rfl (by kernel_rfl) (by kernel_rfl) (by kernel_rfl) (fun _ _ _ h => h) (Or.inl ⟨by kernel_rfl, ?_⟩) hHeld ?_
       rotate_left
       ·(rintro W ⟨⟨e0, e1⟩, ⟨e2, e3, e4, e5⟩, _⟩; go_simp; (try with_reducible rfl))
       (try simp only [Act.put, putL])
       refine wpAnyH_take (i := 2) (v := ?_) rfl (by kernel_rfl) (by kernel_rfl) (by kernel_rfl) (fun _ _ _ h => h) (Or.inl ⟨by kernel_rfl, ?_⟩) hHeld ?_
       rotate_left
       ·(rintro W ⟨⟨e0, e1⟩, ⟨e2, e3, e4, e5⟩, _⟩; go_simp; (try with_reducible rfl))
       (try simp only [Act.put, putL])
       refine wpAnyH_take (i := 3) (v := ?_) rfl (by kernel_rfl) (by kernel_rfl) (by kernel_rfl) (fun _ _ _ h => h) (Or.inl ⟨by kernel_rfl, ?_⟩) hHeld ?_
       rotate_left
       ·(rintro W ⟨⟨e0, e1⟩, ⟨e2, e3, e4, e5⟩, _⟩; go_simp; (try with_reducible rfl))
       (try simp only [Act.put, putL])
       refine wpAnyH_take (i := 4) (v := ?_) rfl (by kernel_rfl) (by kernel_rfl) (by kernel_rfl) (fun _ _ _ h => h) (Or.inl ⟨by kernel_rfl, ?_⟩) hHeld ?_
       rotate_left
       ·(rintro W ⟨⟨e0, e1⟩, ⟨e2, e3, e4, e5⟩, _⟩; go_simp; (try with_reducible rfl))
       (try simp only [Act.put, putL])
       refine wpAnyH_take (i := 5) (v := ?_) rfl (by kernel_rfl) (by kernel_rfl) (by kernel_rfl) (fun _ _ _ h => h) (Or.inl ⟨by kernel_rfl, ?_⟩) hHeld ?_
       rotate_left
       ·(rintro W ⟨⟨e0, e1⟩, ⟨e2, e3, e4, e5⟩, _⟩; go_simp; (try with_reducible rfl))
       (try simp only [Act.put, putL])
       refine wpAnyH_take (i := 6) (v := ?_) rfl (by kernel_rfl) (by kernel_rfl) (by kernel_rfl) (fun _ _ _ h => h) (Or.inl ⟨by kernel_rfl, ?_⟩) hHeld ?_
       rotate_left
       ·(rintro W ⟨⟨e0, e1⟩, ⟨e2, e3, e4, e5⟩, _⟩; go_simp; (try with_reducible rfl))
       (try simp only [Act.put, putL])
       refine wpAnyH_take (i := 7) (v := ?_) rfl (by kernel_rfl) (by kernel_rfl) (by kernel_rfl) (fun _ _ _ h => h) (Or.inl ⟨by kernel_rfl, ?_⟩) hHeld ?_
       rotate_left
       ·(rintro W ⟨⟨e0, e1⟩, ⟨e2, e3, e4, e5⟩, _⟩; go_simp; (try with_reducible rfl))
       (try simp only [Act.put, putL])
       refine wpAnyH_take (i := 8) (v := ?_) rfl (by kernel_rfl) (by kernel_rfl) (by kernel_rfl) (fun _ _ _ h => h) (Or.inl ⟨by kernel_rfl, ?_⟩) hHeld ?_
       rotate_left
       ·(rintro W ⟨⟨e0, e1⟩, ⟨e2, e3, e4, e5⟩, _⟩; go_simp; (try with_reducible rfl))
       (try simp only [Act.put, putL])
       refine wpAnyH_take (i := 9) (v := ?_) rfl (by kernel_rfl) (by kernel_rfl) (by kernel_rfl) (fun _ _ _ h => h) (Or.inl ⟨by kernel_rfl, ?_⟩) hHeld ?_
       rotate_left
       ·(rintro W ⟨⟨e0, e1⟩, ⟨e2, e3, e4, e5⟩, _⟩; go_simp; (try with_reducible rfl))
       (try simp only [Act.put, putL])
       refine wpAnyH_take (i := 10) (v := ?_) rfl (by kernel_rfl) (by kernel_rfl) (by kernel_rfl) (fun _ _ _ h => h) (Or.inl ⟨by kernel_rfl, ?_⟩) hHeld ?_
       rotate_left
       ·(rintro W ⟨⟨e0, e1⟩, ⟨e2, e3, e4, e5⟩, _⟩; go_simp; (try with_reducible rfl))
       (try simp only [Act.put, putL])
       refine wpAnyH_ready (rs := [11]) (by kernel_rfl) (by simp) ?_
       refine AllReadyH.cons rfl (fun K hK => ?_) AllReadyH.nil
       go_simp
       refine (HMt.out _ hHeld.2.2).mono ?_
       rintro e w12 ⟨rfl, hk12⟩
       refine hK.out _ _ (hHeld.on hk12) (fun hHeld => ?_)
       clear hK K
       (try simp only [Act.put, putL])
       refine wpAnyH_take (i := 12) (v := ?_) rfl (by kernel_rfl) (by kernel_rfl) (by kernel_rfl) (fun _ _ _ h => h) (Or.inl ⟨by kernel_rfl, ?_⟩) hHeld ?_
       rotate_left
       ·(rintro W ⟨⟨e0, e1⟩, ⟨e2, e3, e4, e5⟩, _⟩; go_simp; (try with_reducible rfl))
       (try simp only [Act.put, putL])
       refine wpAnyH_take (i := 13) (v := ?_) rfl (by kernel_rfl) (by kernel_rfl) (by kernel_rfl) (fun _ _ _ h => h) (Or.inl ⟨by kernel_rfl, ?_⟩) hHeld ?_
       rotate_left
       ·(rintro W ⟨⟨e0, e1⟩, ⟨e2, e3, e4, e5⟩, _⟩; go_simp; (try with_reducible rfl))
       (try simp only [Act.put, putL])
       refine wpAnyH_done (by kernel_rfl) ?_ _
       have hbE := HD.out.trans (hHeld.2.2.mono HD.out.size)
       have hbF := below_then HB8.out hbE
       clear hst hHeld
       cases r
       ·have HF : Hid (¬ ClosedL (ppL ts) ws) := fun h => by
         obtain ⟨j, h1, h2, h3⟩ := h i' (by rw [ppL_len]; exact hi') _ HTi.out xn HXm.out
         have := HTW.out.inj h1 (by rw [ppL_len]; exact HI2.out.1) (h2.trans HI2.out.2.symm)
         subst this
         rw [HRr.out] at h3; cases h3
        go_wp2_with fail
        go_ret
        exact ⟨⟨false, rfl, (fun h => by cases h), fun h => absurd h HF.out⟩, hbF⟩
       ·have HNx : Hid (∀ n ∈ ons.take (m + 1), ∃ j, j < (ppL ts).length ∧ namL (ppL ts) j = n.1.name ∧ metN (takenL (ppL ts) ws j) n.1 = true) := by
         show ∀ _, _
         intro n hn
         rw [HTm.out] at hn
         rcases List.mem_append.1 hn with hn | hn
         ·exact HAm.out n hn
         ·simp at hn; subst hn
          exact ⟨i2, by rw [ppL_len]; exact HI2.out.1, HI2.out.2, HRr.out⟩
        have hbG := below_then HB9.out hbE
        go_wp2_with fail
        go_roundw
        case rel => exact ⟨m + 1, hlt2, by go_num, HNx.out, hbG⟩
        case measure => simp [intOf]; omega
      ·have HF : Hid (¬ ClosedL (ppL ts) ws) := fun h => by
        obtain ⟨j, h1, h2, h3⟩ := h i' (by rw [ppL_len]; exact hi') _ HTi.out xn HXm.out
        have := hno j (by rw [← ppL_len]; exact h1) h2
        rw [this] at h3; cases h3
       have hal7 := (Below.refl w6.heap.size w6).alloc (Nat.le_refl _) (.cells #[.int .i64 0, .int .i64 0, .int .i64 0, .string ⟨#[]⟩, .bool false, .slice none 0 0] 55)
       have hb9 := below_then hb8 hal7
       clear hno e0 e1
       go_wp2_with fail
       go_quiet (fail)
       go_wp2_with fail
       go_ret
       exact ⟨⟨false, rfl, (fun h => by cases h), fun h => absurd h HF.out⟩, below_drewN hb9 _⟩
     ·have j1 : decide (m < ons.length) = false := decide_eq_false hlt2
      have HNx : Hid (∀ j, j < i' + 1 → ClosedAt (ppL ts) ws j) := by
       show ∀ _, _
       intro j hj
       rcases Nat.lt_succ_iff_lt_or_eq.1 hj with h | rfl
       ·exact HA.out j h
       ·intro o' ho' n hn
        rw [HTi.out] at ho'
        injection ho' with ho'
        subst ho'
        obtain ⟨y, hy, rfl⟩ := List.mem_map.1 hn
        refine HAm.out y ?_
        rw [List.take_of_length_le (by simp only; omega)]; exact hy
      clear hlt2
      go_wp2_with fail
      go_roundw
      case rel => exact ⟨i' + 1, hlt, by go_num, HNx.out, hb6⟩
      case measure => simp [intOf]; omega
   ·have HNx : Hid (∀ j, j < k + 1 → ClosedAt (ppL ts) ws j) := by
     show ∀ _, _
     intro j hj
     rcases Nat.lt_succ_iff_lt_or_eq.1 hj with h | rfl
     ·exact HA.out j h
     ·intro o' ho'
      rw [hno j hlt HNk.out] at ho'; cases ho'
    have hal := (Below.refl w2.heap.size w2).alloc (Nat.le_refl _) (.cells #[.int .i64 0, .int .i64 0, .int .i64 0, .string ⟨#[]⟩, .bool false, .slice none 0 0] 55)
    have hb4 := below_then hb3 hal
    clear hno c0
    go_wp2_with fail
    go_loopw [8] (fun i wy => i = .int .i64 0 ∧ wy = w2.alloc (.cells #[.int .i64 0, .int .i64 0, .int .i64 0, .string ⟨#[]⟩, .bool false, .slice none 0 0] 55)) (fun _ _ => 0)
    case atStart => exact ⟨rfl, rfl⟩
    case round =>
     obtain ⟨rfl, rfl⟩ := hrel
     go_wp2_with fail
     go_roundw
     case rel => exact ⟨k + 1, hlt, by go_num, HNx.out, hb4⟩
     case measure => simp [intOf]; omega
  ·have i1 : decide (k < ts.length) = false := decide_eq_false hlt
   have HF : Hid (ClosedL (ppL ts) ws) := fun j hj => HA.out j (by rw [ppL_len] at hj; omega)
   clear hlt
   go_wp2_with fail
   go_ret
   exact ⟨⟨true, rfl, fun _ => HF.out, fun _ => rfl⟩, hb⟩
end Go.Proofs.YtbgimpeklblcjaaGreatDoor

namespace Go
open Go.RowKit
/-- how many are not on yet -/
def offN (f : Nat → Bool) (n : Nat) : Nat := ((List.range n).filter fun j => !f j).length
def putF (f : Nat → Bool) (i : Nat) (b : Bool) : Nat → Bool := fun j => if j = i then b else f j
theorem putF_same (f : Nat → Bool) (i : Nat) : putF f i (f i) = f := by
 funext j; unfold putF; split
 ·rename_i h; rw [h]
 ·rfl
theorem filterR_le {α : Type} {p q : α → Bool} : ∀ (l : List α), (∀ x ∈ l, p x = true → q x = true) → (l.filter p).length ≤ (l.filter q).length
 | [], _ => Nat.le_refl _
 | x :: l, h => by
  have ih := filterR_le l fun y hy => h y (List.mem_cons_of_mem _ hy)
  rw [List.filter_cons, List.filter_cons]
  by_cases hp : p x = true
  ·rw [if_pos hp, if_pos (h x List.mem_cons_self hp)]; simpa using ih
  ·rw [if_neg hp]; split
   ·rw [List.length_cons]; omega
   ·exact ih
theorem filterR_lt {α : Type} {p q : α → Bool} : ∀ {l : List α} {x : α}, x ∈ l → p x = false → q x = true → (∀ x ∈ l, p x = true → q x = true) → (l.filter p).length < (l.filter q).length
 | y :: l, x, hx, hp, hq, h => by
  rw [List.filter_cons, List.filter_cons]
  rcases List.mem_cons.1 hx with rfl | hx
  ·rw [if_neg (by rw [hp]; simp), if_pos hq, List.length_cons]
   have := filterR_le l fun y hy => h y (List.mem_cons_of_mem _ hy)
   omega
  ·have ih := filterR_lt hx hp hq fun y hy => h y (List.mem_cons_of_mem _ hy)
   by_cases hpy : p y = true
   ·rw [if_pos hpy, if_pos (h y List.mem_cons_self hpy)]; simpa using ih
   ·rw [if_neg hpy]; split
    ·rw [List.length_cons]; omega
    ·exact ih
theorem offN_put {f : Nat → Bool} {n i : Nat} (hi : i < n) (hf : f i = false) : offN (putF f i true) n < offN f n := by
 unfold offN
 refine filterR_lt (x := i) (List.mem_range.2 hi) (by simp [putF]) (by simp [hf]) fun x _ h => ?_
 unfold putF at h
 split at h
 ·cases h
 ·exact h
/-- what is on is reached -/
def OnOk (T : List PP) (asked : Nam → Bool) (ws : List Nat) (f : Nat → Bool) : Prop := ∀ j, f j = true → j < T.length ∧ (∃ p, takenL T ws j = some p) ∧ ReachG T asked ws j
def Wanted (T : List PP) (asked : Nam → Bool) (ws : List Nat) (f : Nat → Bool) (i : Nat) : Prop := asked (namL T i) = true ∨ ∃ k, f k = true ∧ StepG T ws k i
theorem OnOk.put {T : List PP} {asked : Nam → Bool} {ws : List Nat} {f : Nat → Bool} (h : OnOk T asked ws f) {i : Nat} (hi : i < T.length) (ht : ∃ p, takenL T ws i = some p) (hw : Wanted T asked ws f i) : OnOk T asked ws (putF f i true) := by
 intro j hj
 unfold putF at hj
 split at hj
 ·rename_i e
  subst e
  refine ⟨hi, ht, ?_⟩
  rcases hw with hw | ⟨k, hk, hs⟩
  ·exact ⟨j, ⟨hi, hw, ht⟩, .refl _⟩
  ·obtain ⟨_, _, s, hs1, hg⟩ := h k hk
   exact ⟨s, hs1, hg.tail hs⟩
 ·exact h j hj
theorem on_all {T : List PP} {asked : Nam → Bool} {ws : List Nat} {f : Nat → Bool} (h : OnOk T asked ws f) (hc : ∀ i, i < T.length → (∃ p, takenL T ws i = some p) → f i = false → ¬ Wanted T asked ws f i) (i : Nat) : f i = true ↔ ReachG T asked ws i := by
 refine ⟨fun hi => (h i hi).2.2, fun ⟨s, hs, hg⟩ => ?_⟩
 induction hg with
 | refl =>
  cases hf : f s with
  | true => rfl
  | false => exact absurd (.inl hs.2.1) (hc s hs.1 hs.2.2 hf)
 | tail hg e ih =>
  rename_i b c _
  cases hf : f c with
  | true => rfl
  | false => exact absurd (.inr ⟨b, ih ⟨s, hs, hg⟩, e⟩) (hc c e.1 e.2.1 hf)
/-- what the region looks at -/
def GrB (g k bx q1 : Nat) (os : Value) (bw q2 y bo q3 : Nat) (v0 v1 v2 v3 v4 v5 : Value) (q4 : Nat) (nm : ByteArray) (w0 W : World) : Prop :=
 W.cell? ⟨g, k, none⟩ = some (.bool true) ∧ (W.cell? ⟨bx, q1, none⟩ = some os ∧ W.cell? ⟨bw, q2, none⟩ = some (.int .i64 (y : Int)) ∧ W.cell? ⟨bx, q4, none⟩ = some (.string nm)) ∧
  (W.cell? ⟨bo, q3, none⟩ = some v0 ∧ W.cell? ⟨bo, q3 + 1, none⟩ = some v1 ∧ W.cell? ⟨bo, q3 + 2, none⟩ = some v2 ∧ W.cell? ⟨bo, q3 + 3, none⟩ = some v3 ∧ W.cell? ⟨bo, q3 + 4, none⟩ = some v4 ∧ W.cell? ⟨bo, q3 + 5, none⟩ = some v5) ∧ Below w0.heap.size w0 W
theorem GrB.on {g k bx q1 : Nat} {os : Value} {bw q2 y bo q3 : Nat} {v0 v1 v2 v3 v4 v5 : Value} {q4 : Nat} {nm : ByteArray} {w0 W W' : World} (h : GrB g k bx q1 os bw q2 y bo q3 v0 v1 v2 v3 v4 v5 q4 nm w0 W) (hb : Below W.heap.size W W') : GrB g k bx q1 os bw q2 y bo q3 v0 v1 v2 v3 v4 v5 q4 nm w0 W' := by
 obtain ⟨a, ⟨b0, b1, b2⟩, ⟨c0, c1, c2, c3, c4, c5⟩, d⟩ := h
 exact ⟨cell_on a hb, ⟨cell_on b0 hb, cell_on b1 hb, cell_on b2 hb⟩, ⟨cell_on c0 hb, cell_on c1 hb, cell_on c2 hb, cell_on c3 hb, cell_on c4 hb, cell_on c5 hb⟩, below_then d hb⟩
theorem GrB.set {g k bx q1 : Nat} {os : Value} {bw q2 y bo q3 : Nat} {v0 v1 v2 v3 v4 v5 : Value} {q4 : Nat} {nm : ByteArray} {w0 W : World} (h : GrB g k bx q1 os bw q2 y bo q3 v0 v1 v2 v3 v4 v5 q4 nm w0 W) (hne : bx ≠ g ∧ bw ≠ g ∧ bo ≠ g) (hg : w0.heap.size ≤ g) {i : Nat} (hki : k ≠ i) (v : Value) : GrB g k bx q1 os bw q2 y bo q3 v0 v1 v2 v3 v4 v5 q4 nm w0 (W.setCell ⟨g, i, none⟩ v) := by
 obtain ⟨a, ⟨b0, b1, b2⟩, ⟨c0, c1, c2, c3, c4, c5⟩, d⟩ := h
 have far : ∀ b q, b ≠ g → (W.setCell ⟨g, i, none⟩ v).cell? ⟨b, q, none⟩ = W.cell? ⟨b, q, none⟩ := fun b q h => World.cell?_setCell_far _ _ _ _ (fun e => h e.symm)
 refine ⟨(World.cell?_setCell_other _ _ _ _ (fun e => hki (by injection e with _ e _; exact e.symm))).trans a, ⟨(far _ _ hne.1).trans b0, (far _ _ hne.2.1).trans b1, (far _ _ hne.1).trans b2⟩, ⟨(far _ _ hne.2.2).trans c0, (far _ _ hne.2.2).trans c1, (far _ _ hne.2.2).trans c2, (far _ _ hne.2.2).trans c3, (far _ _ hne.2.2).trans c4, (far _ _ hne.2.2).trans c5⟩, d.setCell hg _⟩
end Go
namespace Go.Proofs.YtbgimpeklblcjaaGreatDoor
open Go.RowKit Go.Maps
/-- the marks, in the call's own row -/
def OnAt (n : Nat) (w : World) (f : Nat → Bool) (wr : World) : Prop := wr.rowIs w.heap.size 4 n (fun j => .bool (f j)) ∧ Below w.heap.size w wr
theorem OnAt.on {n : Nat} {w : World} {f : Nat → Bool} {W W' : World} (h : OnAt n w f W) (hb : Below W.heap.size W W') : OnAt n w f W' := ⟨h.1.of_block (hb.block _ h.1.lt), below_then h.2 hb⟩
theorem OnAt.put {n : Nat} {w : World} {f : Nat → Bool} {W : World} (h : OnAt n w f W) (i : Nat) (b : Bool) : OnAt n w (putF f i b) (W.setCell ⟨w.heap.size, i, none⟩ (.bool b)) := by
 refine ⟨(h.1.set i _).congr fun j _ => ?_, h.2.setCell (Nat.le_refl _) _⟩
 unfold putF
 by_cases e : j = i
 ·rw [if_pos e, if_pos e]
 ·rw [if_neg e, if_neg e]
def RgRel (ts : List DPack) (ak : Nam → Bool) (ws : List Nat) (w : World) (g : Nat) (x : Value) (wr : World) : Prop :=
 ∃ (more : Bool) (f : Nat → Bool), x = .bool more ∧ OnAt ts.length w f wr ∧ OnOk (ppL ts) ak ws f ∧ g = offN f ts.length + (if more = true then 1 else 0) ∧ (more = false → ∀ i, i < (ppL ts).length → (∃ p, takenL (ppL ts) ws i = some p) → f i = false → ¬ Wanted (ppL ts) ak ws f i)
def RiRel (ts : List DPack) (ak : Nam → Bool) (ws : List Nat) (w : World) (f0 : Nat → Bool) (x i : Value) (wr : World) : Prop :=
 ∃ (k : Nat) (more : Bool) (f : Nat → Bool), k ≤ ts.length ∧ i = .int .i64 (k : Int) ∧ x = .bool more ∧ OnAt ts.length w f wr ∧ OnOk (ppL ts) ak ws f ∧ (more = true → offN f ts.length < offN f0 ts.length) ∧ (more = false → f = f0 ∧ ∀ i, i < k → (∃ p, takenL (ppL ts) ws i = some p) → f i = false → ¬ Wanted (ppL ts) ak ws f i)
def RkRel (ts : List DPack) (ak : Nam → Bool) (ws : List Nat) (w : World) (f : Nat → Bool) (i : Nat) (x : Value) (wr : World) : Prop :=
 ∃ (k : Nat) (c : Bool), k ≤ ts.length ∧ x = .int .i64 (k : Int) ∧ OnAt ts.length w (putF f i c) wr ∧ (c = true → Wanted (ppL ts) ak ws f i) ∧ (c = false → ¬ ak (namL (ppL ts) i) = true ∧ ∀ j, j < k → f j = true → ¬ StepG (ppL ts) ws j i)
def RzRel (ts : List DPack) (ws : List Nat) (w : World) (f : Nat → Bool) (x : Value) (wr : World) : Prop :=
 ∃ k : Nat, k ≤ ts.length ∧ x = .int .i64 (k : Int) ∧ OnAt ts.length w f wr ∧ ∀ j, j < k → (∃ p, takenL (ppL ts) ws j = some p) → f j = true
set_option maxRecDepth 100000 in
set_option maxHeartbeats 8000000 in
theorem rgrounded_as (tv wv nv : Value) (ts : List DPack) (ws : List Nat) (needs : List (Want × Value)) (w : World) (ht : Packs w tv ts) (hw : WayRow w wv ws) (hn : Wants w nv needs) (hl : ws.length = ts.length) (hB : TabB (ppL ts)) :
  Calls Tryz.prog 53 #[tv, wv, nv] w fun e w' => (∃ b, e = .returned (.bool b) ∧ (b = true ↔ GroundW (ppL ts) (askN needs) ws)) ∧ Below w.heap.size w w' := by
 obtain ⟨hmx, a0, cap0, rfl⟩ := ht.len
 obtain ⟨_, a1, cap1, rfl⟩ := hw.len
 obtain ⟨_, a2, cap2, rfl⟩ := hn.len
 have hn6 : ts.length ≤ 1000000 := by have := hB.few; rwa [ppL_len] at this
 have hmk := fun W : World => run_make_row' (P := Tryz.prog) 80 4 (.bool false) 1 Tryz.underlying80 info_bool rfl .i64 .i64 ts.length (by omega) (by omega) W
 have HT := Lib.hid ht
 have HW := Lib.hid hw
 have HN := Lib.hid hn
 have HL := Lib.hid hl
 have HB := Lib.hid hB
 rw [hl]
 have hst : OnAt ts.length w (fun _ => false) (w.alloc (.cells (madeCells #[.bool false] ts.length) 4)) := ⟨World.rowIs_made w (.bool false) ts.length 4, (Below.refl _ _).alloc (Nat.le_refl _) _⟩
 have HSt := Lib.hid hst
 clear ht hw hn hmx hl hB hst
 go_enter Tryz.func53, Tryz.ntmps53
 go_wp2_with fail
 go_loopg [8] (offN (fun _ => false) ts.length + 1) (fun g x wr => RgRel ts (askN needs) ws w g x wr)
 case atStart => exact ⟨true, fun _ => false, rfl, HSt.out, (fun j h => by cases h), rfl, (fun h => by cases h)⟩
 case round =>
  obtain ⟨more, f, rfl, hOn, hOk, hg, hcl⟩ := hrel
  have HOn := Lib.hid hOn
  have HOk := Lib.hid hOk
  have HG := Lib.hid hg
  have HCl := Lib.hid hcl
  clear hOn hOk hg hcl
  obtain ⟨w9, rfl⟩ : ∃ x, x = wr := ⟨_, rfl⟩
  cases more
  ·have HAll := Lib.hid (on_all HOk.out (HCl.out rfl))
   go_wp2_with fail
   go_loopw [11] (fun x wy => RzRel ts ws w f x wy) (fun x _ => ts.length - (intOf x).toNat)
   case atStart => exact ⟨0, Nat.zero_le _, rfl, HOn.out, fun j h => absurd h (Nat.not_lt_zero _)⟩
   case round =>
    obtain ⟨k, hk, rfl, hOn, hall⟩ := hrel
    have HA := Lib.hid hall
    have HO2 := Lib.hid hOn
    clear hall
    by_cases hlt : k < ts.length
    ·have i0 : (0 : Int) ≤ (k : Int) := by omega
     have i1 : (k : Int) < (ts.length : Int) := by omega
     have r1 := hOn.1.cell hlt
     (try simp only at r1)
     have hzr := hOn.1.lt
     obtain ⟨x, hx⟩ : ∃ x, ws[k]? = some x := ⟨_, List.getElem?_eq_getElem (by rw [HL.out]; exact hlt)⟩
     have htk := taken_atP hlt hx
     obtain ⟨bw, ow, rfl, hbw, g0⟩ := HW.out.at' hOn.2 hx
     obtain ⟨bx, ox, rfl, hbx, c0, c1⟩ := HT.out.at' hOn.2 hlt
     obtain ⟨⟨xn, xo, xa, xc⟩, hxe⟩ : ∃ x, ts[k] = x := ⟨_, rfl⟩
     rw [hxe] at c0 c1 htk
     simp only [DPack.ov] at c0 c1 htk
     have HTk := Lib.hid htk
     have hb1 := hOn.2
     clear hxe htk hx hOn c0
     by_cases hl : x < xo.length
     ·have q1 : decide (x < xo.length) = true := decide_eq_true hl
      have q2 : (x : Int) < (xo.length : Int) := by omega
      have HTp : Hid (∃ p, takenL (ppL ts) ws k = some p) := ⟨_, by rw [HTk.out, List.getElem?_eq_getElem hl]; rfl⟩
      obtain ⟨fk, hfk⟩ : ∃ b, f k = b := ⟨_, rfl⟩
      rw [hfk] at r1
      have HFk := Lib.hid hfk
      clear hfk hl
      cases fk
      ·have HF : Hid (¬ GroundW (ppL ts) (askN needs) ws) := fun hg => by
        obtain ⟨p, hp⟩ := HTp.out
        have := (HAll.out k).2 (hg k (by rw [ppL_len]; exact hlt) p hp)
        rw [HFk.out] at this; cases this
       go_wp2_with fail
       go_quiet (fail)
       go_wp2_with fail
       go_ret
       exact ⟨⟨false, rfl, fun h => (by cases h), fun h => absurd h HF.out⟩, below_drewN hb1 _⟩
      ·have HNx : Hid (∀ j, j < k + 1 → (∃ p, takenL (ppL ts) ws j = some p) → f j = true) := by
        show ∀ _, _
        intro j hj hp
        rcases Nat.lt_succ_iff_lt_or_eq.1 hj with h | rfl
        ·exact HA.out j h hp
        ·exact HFk.out
       go_wp2_with fail
       go_quiet (fail)
       go_wp2_with fail
       go_roundw
       case rel => exact ⟨k + 1, hlt, by go_num, HO2.out.on (below_drewN (Below.refl _ _) _), HNx.out⟩
       case measure => simp [intOf]; omega
     ·have q1 : decide (x < xo.length) = false := decide_eq_false hl
      have q2 : ¬ (x : Int) < (xo.length : Int) := by omega
      have HNx : Hid (∀ j, j < k + 1 → (∃ p, takenL (ppL ts) ws j = some p) → f j = true) := by
       show ∀ _, _
       intro j hj hp
       rcases Nat.lt_succ_iff_lt_or_eq.1 hj with h | rfl
       ·exact HA.out j h hp
       ·obtain ⟨p, hp⟩ := hp
        rw [HTk.out, List.getElem?_eq_none (by omega)] at hp; cases hp
      clear hl
      go_wp2_with fail
      go_quiet (fail)
      go_wp2_with fail
      go_roundw
      case rel => exact ⟨k + 1, hlt, by go_num, HO2.out.on (below_drewN (Below.refl _ _) _), HNx.out⟩
      case measure => simp [intOf]; omega
    ·have i1 : decide (k < ts.length) = false := decide_eq_false hlt
     have HF : Hid (GroundW (ppL ts) (askN needs) ws) := fun j hj p hp => (HAll.out j).1 (HA.out j (by rw [ppL_len] at hj; omega) ⟨p, hp⟩)
     have hb1 := hOn.2
     clear hlt hOn
     go_wp2_with fail
     go_ret
     exact ⟨⟨true, rfl, fun _ => HF.out, fun _ => rfl⟩, hb1⟩
  ·go_wp2_with fail
   go_loopw [8, 9] (fun x i wy => RiRel ts (askN needs) ws w f x i wy) (fun _ i _ => ts.length - (intOf i).toNat)
   case atStart => exact ⟨0, false, f, Nat.zero_le _, rfl, rfl, HOn.out, HOk.out, (fun h => by cases h), fun _ => ⟨rfl, fun i h => absurd h (Nat.not_lt_zero _)⟩⟩
   case round =>
    obtain ⟨i, more, f1, hi, rfl, rfl, hOn, hOk, hmt, hmf⟩ := hrel
    have HO2 := Lib.hid hOn
    have HOk2 := Lib.hid hOk
    have HM := Lib.hid (⟨hmt, hmf⟩ : _ ∧ _)
    clear hOk hmt hmf
    by_cases hlt : i < ts.length
    ·have i0 : (0 : Int) ≤ (i : Int) := by omega
     have i1 : (i : Int) < (ts.length : Int) := by omega
     have hiT : i < (ppL ts).length := by rw [ppL_len]; exact hlt
     have r1 := hOn.1.cell hlt
     (try simp only at r1)
     have hzr := hOn.1.lt
     obtain ⟨x, hx⟩ : ∃ x, ws[i]? = some x := ⟨_, List.getElem?_eq_getElem (by rw [HL.out]; exact hlt)⟩
     have htk := taken_atP hlt hx
     have hnk := nam_at ts hlt
     obtain ⟨bw, ow, rfl, hbw, g0⟩ := HW.out.at' hOn.2 hx
     obtain ⟨bx, ox, rfl, hbx, c0, c1⟩ := HT.out.at' hOn.2 hlt
     obtain ⟨⟨xn, xo, xa, xc⟩, hxe⟩ : ∃ x, ts[i] = x := ⟨_, rfl⟩
     rw [hxe] at c0 c1 htk hnk
     simp only [DPack.ov] at c0 c1 htk hnk
     have HTk := Lib.hid (⟨htk, hnk⟩ : _ ∧ _)
     have HXn : Hid ((ts[i]'hlt).name = xn) := by show _ = _; rw [hxe]
     have hb1 := hOn.2
     -- one that need not be looked at
     have hskip : (f1 i = true ∨ ¬ ∃ p, takenL (ppL ts) ws i = some p) → ∀ m, RiRel ts (askN needs) ws w f (.bool more) (.int .i64 ((i + 1 : Nat) : Int)) (wr.drewN m) := fun h m =>
      ⟨i + 1, more, f1, hlt, rfl, rfl, HO2.out.on (below_drewN (Below.refl _ _) _), HOk2.out, HM.out.1, fun hm => ⟨(HM.out.2 hm).1, fun j hj hp hf => by
       rcases Nat.lt_succ_iff_lt_or_eq.1 hj with h' | rfl
       ·exact (HM.out.2 hm).2 j h' hp hf
       ·rcases h with h | h
        ·rw [h] at hf; cases hf
        ·exact absurd hp h⟩⟩
     have HSk := Lib.hid hskip
     clear hxe htk hnk hx hOn hskip
     obtain ⟨fk, hfk⟩ : ∃ b, f1 i = b := ⟨_, rfl⟩
     rw [hfk] at r1
     have HFk := Lib.hid hfk
     clear hfk
     cases fk
     case true =>
      go_wp2_with fail
      go_quiet (fail)
      go_wp2_with fail
      go_roundw
      case rel => exact HSk.out (.inl HFk.out) _
      case measure => simp [intOf]; omega
     case false =>
      by_cases hl : x < xo.length
      case neg =>
       have q1 : decide (xo.length ≤ x) = true := decide_eq_true (by omega)
       have q2 : (xo.length : Int) ≤ (x : Int) := by omega
       have HNo : Hid (¬ ∃ p, takenL (ppL ts) ws i = some p) := by
        rintro ⟨p, hp⟩
        rw [HTk.out.1, List.getElem?_eq_none (by omega)] at hp; cases hp
       clear hl
       go_wp2_with fail
       go_quiet (fail)
       go_wp2_with fail
       go_roundw
       case rel => exact HSk.out (.inr HNo.out) _
       case measure => simp [intOf]; omega
      case pos =>
       have q1 : decide (xo.length ≤ x) = false := decide_eq_false (by omega)
       have q2 : ¬ (xo.length : Int) ≤ (x : Int) := by omega
       have HTp : Hid (∃ p, takenL (ppL ts) ws i = some p) := ⟨_, by rw [HTk.out.1, List.getElem?_eq_getElem hl]; rfl⟩
       obtain ⟨ak, hak⟩ : ∃ b, askedB needs xn = b := ⟨_, rfl⟩
       have HAs : Hid (∀ m, Calls Tryz.prog 90 #[.slice a2 needs.length cap2, .string xn] (wr.drewN m) fun e w' => e = .returned (.bool ak) ∧ Below (wr.drewN m).heap.size (wr.drewN m) w') := fun m => by
        have h := rasked_any _ needs xn (wr.drewN m) (HN.out.below (below_drewN hb1 m) (Nat.le_refl _))
        rw [hak] at h; exact h
       have HAk : Hid (askN needs (namL (ppL ts) i) = ak) := by show _ = _; rw [HTk.out.2]; exact hak
       clear hak hl
       go_wp2_with fail
       go_quiet (fail)
       go_wp2_with fail
       refine (HAs.out _).mono ?_
       rintro e w3 ⟨rfl, hb3⟩
       have HO3 := Lib.hid ((HO2.out.on (below_drewN (Below.refl _ _) _)).on hb3)
       have r3 := HO3.out.1.cell hlt
       have fr3 := HO3.out.1.frozen i
       have hz3 := HO3.out.1.lt
       simp only [HFk.out] at r3
       have HO4 := Lib.hid (HO3.out.put i ak)
       clear r1 c0 c1 g0 hzr hb3
       go_wp2_with fail
       generalize w3.setCell ⟨w.heap.size, i, none⟩ (.bool ak) = w4 at *
       go_loopw [10] (fun x wy => RkRel ts (askN needs) ws w f1 i x wy) (fun x _ => ts.length - (intOf x).toNat)
       case atStart => exact ⟨0, ak, Nat.zero_le _, rfl, HO4.out, fun h => .inl (by rw [HAk.out]; exact h), fun h => ⟨by rw [HAk.out, h]; simp, fun j hj => absurd hj (Nat.not_lt_zero _)⟩⟩
       case round =>
        obtain ⟨k, c, hk, rfl, hO5, hct, hcf⟩ := hrel
        have HO5 := Lib.hid hO5
        have HC := Lib.hid (⟨hct, hcf⟩ : _ ∧ _)
        have r5 := hO5.1.cell hlt
        have fr5 := hO5.1.frozen i
        have hz5 := hO5.1.lt
        simp only [putF, if_true] at r5
        clear hct hcf hO5
        -- the end: on it is, or not
        have hend : (c = true ∨ ts.length ≤ k) → RiRel ts (askN needs) ws w f (.bool (more || c)) (.int .i64 ((i + 1 : Nat) : Int)) wr := fun h => by
         cases c
         ·have hk2 : ts.length ≤ k := h.resolve_left (by simp)
          have e : putF f1 i false = f1 := by rw [← HFk.out]; exact putF_same f1 i
          have hO := HO5.out
          rw [e] at hO
          refine ⟨i + 1, more, f1, hlt, rfl, by rw [Bool.or_false], hO, HOk2.out, HM.out.1, fun hm => ⟨(HM.out.2 hm).1, fun j hj hp hf => ?_⟩⟩
          rcases Nat.lt_succ_iff_lt_or_eq.1 hj with h' | rfl
          ·exact (HM.out.2 hm).2 j h' hp hf
          ·rintro (hw | ⟨k', hk', hs⟩)
           ·exact (HC.out.2 rfl).1 hw
           ·exact (HC.out.2 rfl).2 k' (by have := (HOk2.out k' hk').1; rw [ppL_len] at this; omega) hk' hs
         ·refine ⟨i + 1, true, putF f1 i true, hlt, rfl, by rw [Bool.or_true], HO5.out, HOk2.out.put hiT HTp.out (HC.out.1 rfl), fun _ => ?_, (fun h => by cases h)⟩
          have h1 := offN_put hlt HFk.out
          cases hmo : more with
          | true => exact Nat.lt_trans h1 (HM.out.1 hmo)
          | false => rw [(HM.out.2 hmo).1] at h1; rw [(HM.out.2 hmo).1]; exact h1
        have HEnd := Lib.hid hend
        clear hend
        cases c
        case true =>
         have hE := HEnd.out (.inl rfl)
         rw [Bool.or_true] at hE
         have HE := Lib.hid hE
         clear hE
         by_cases hkl : k < ts.length
         ·have k1 : decide (k < ts.length) = true := decide_eq_true hkl
          cases more
          ·go_wp2_with fail
           go_roundw
           case rel => exact HE.out
           case measure => simp [intOf]; omega
          ·go_wp2_with fail
           go_roundw
           case rel => exact HE.out
           case measure => simp [intOf]; omega
         ·have k1 : decide (k < ts.length) = false := decide_eq_false hkl
          cases more
          ·go_wp2_with fail
           go_roundw
           case rel => exact HE.out
           case measure => simp [intOf]; omega
          ·go_wp2_with fail
           go_roundw
           case rel => exact HE.out
           case measure => simp [intOf]; omega
        case false =>
         by_cases hkl : k < ts.length
         case neg =>
          have k1 : decide (k < ts.length) = false := decide_eq_false hkl
          have hE := HEnd.out (.inr (by omega))
          rw [Bool.or_false] at hE
          have HE := Lib.hid hE
          clear hE hkl
          cases more
          ·go_wp2_with fail
           go_roundw
           case rel => exact HE.out
           case measure => simp [intOf]; omega
          ·go_wp2_with fail
           go_roundw
           case rel => exact HE.out
           case measure => simp [intOf]; omega
         case pos =>
          have k1 : decide (k < ts.length) = true := decide_eq_true hkl
          have k0 : (0 : Int) ≤ (k : Int) := by omega
          have k2 : (k : Int) < (ts.length : Int) := by omega
          have rk := HO5.out.1.cell hkl
          (try simp only at rk)
          have e : putF f1 i false = f1 := by rw [← HFk.out]; exact putF_same f1 i
          rw [e] at rk
          obtain ⟨fk2, hfk2⟩ : ∃ b, f1 k = b := ⟨_, rfl⟩
          rw [hfk2] at rk
          have HFk2 := Lib.hid hfk2
          have HKl := Lib.hid hkl
          clear hfk2 e hkl
          have e6 : ∀ b, putF (putF f1 i false) i b = putF f1 i b := fun b => by
           funext j; unfold putF; split <;> rfl
          have HE6 := Lib.hid e6
          clear e6
          have hd := (Below.refl wr.heap.size wr).drew
          have HOd := Lib.hid (HO5.out.on hd)
          have HC2 := Lib.hid (HC.out.2 rfl)
          cases fk2
          case false =>
           have HNx : Hid (∀ j, j < k + 1 → f1 j = true → ¬ StepG (ppL ts) ws j i) := by
            show ∀ _, _
            intro j hj hf
            rcases Nat.lt_succ_iff_lt_or_eq.1 hj with h | rfl
            ·exact HC2.out.2 j h hf
            ·rw [HFk2.out] at hf; cases hf
           have hO6 := HOd.out.put i false
           rw [HE6.out false] at hO6
           have HO6 := Lib.hid hO6
           have hst : wr.drew.cell? ⟨w.heap.size, k, none⟩ = some (.bool false) := cell_on rk hd
           clear hO6 rk hd
           obtain ⟨r6, fr6, hz6⟩ : wr.drew.cell? ⟨w.heap.size, i, none⟩ = some (.bool false) ∧ wr.drew.frozen? ⟨w.heap.size, i, none⟩ = false ∧ w.heap.size < wr.drew.heap.size := ⟨by simpa [putF] using HOd.out.1.cell hlt, HOd.out.1.frozen i, HOd.out.1.lt⟩
           have hst6 : (wr.drew.setCell ⟨w.heap.size, i, none⟩ (.bool false)).cell? ⟨w.heap.size, k, none⟩ = some (.bool false) := by
            have h := HO6.out.1.cell HKl.out
            have e : putF f1 i false k = false := by unfold putF; split <;> first | rfl | exact HFk2.out
            simpa [e] using h
           have HSt6 := Lib.hid hst6
           clear hst6
           go_wp2_with fail
           refine wp_region_held_drew (S := (fun W => W.cell? ⟨w.heap.size, k, none⟩ = some (.bool false))) (by kernel_rfl) (hst) (fun hHeld => ?_)
           refine wpAnyH_take (i := 0) (v := ?_) rfl (by kernel_rfl) (by kernel_rfl) (by kernel_rfl) (fun _ _ _ h => h) (Or.inl ⟨by kernel_rfl, ?_⟩) hHeld ?_
           rotate_left
           ·(rintro W e0; go_simp; (try with_reducible rfl))
           (try simp only [Act.put, putL])
           refine wpAnyH_take (i := 1) (v := ?_) rfl (by kernel_rfl) (by kernel_rfl) (by kernel_rfl) (fun _ _ _ h => h) (Or.inl ⟨by kernel_rfl, ?_⟩) hHeld ?_
           rotate_left
           ·(rintro W e0; go_simp; (try with_reducible rfl))
           (try simp only [Act.put, putL])
           refine wpAnyH_take (i := 2) (v := ?_) rfl (by kernel_rfl) (by kernel_rfl) (by kernel_rfl) (fun _ _ _ h => h) (Or.inl ⟨by kernel_rfl, ?_⟩) hHeld ?_
           rotate_left
           ·(rintro W e0; go_simp; (try with_reducible rfl))
           (try simp only [Act.put, putL])
           refine wpAnyH_take (i := 3) (v := ?_) rfl (by kernel_rfl) (by kernel_rfl) (by kernel_rfl) (fun _ _ _ h => h) (Or.inl ⟨by kernel_rfl, ?_⟩) hHeld ?_
           rotate_left
           ·(rintro W e0; go_simp; (try with_reducible rfl))
           (try simp only [Act.put, putL])
           refine wpAnyH_take (i := 4) (v := ?_) rfl (by kernel_rfl) (by kernel_rfl) (by kernel_rfl) (fun _ _ _ h => h) (Or.inl ⟨by kernel_rfl, ?_⟩) hHeld ?_
           rotate_left
           ·(rintro W e0; go_simp; (try with_reducible rfl))
           (try simp only [Act.put, putL])
           refine wpAnyH_take (i := 5) (v := ?_) rfl (by kernel_rfl) (by kernel_rfl) (by kernel_rfl) (fun _ _ _ h => h) (Or.inl ⟨by kernel_rfl, ?_⟩) hHeld ?_
           rotate_left
           ·(rintro W e0; go_simp; (try with_reducible rfl))
           (try simp only [Act.put, putL])
           refine wpAnyH_take (i := 6) (v := ?_) rfl (by kernel_rfl) (by kernel_rfl) (by kernel_rfl) (fun _ _ _ h => h) (Or.inl ⟨by kernel_rfl, ?_⟩) hHeld ?_
           rotate_left
           ·(rintro W e0; go_simp; (try with_reducible rfl))
           (try simp only [Act.put, putL])
           refine wpAnyH_take (i := 7) (v := undef) rfl (by kernel_rfl) (by kernel_rfl) (by kernel_rfl) (fun _ _ _ h => h) (Or.inr ⟨by kernel_rfl, rfl⟩) hHeld ?_
           (try simp only [Act.put, putL])
           refine wpAnyH_take (i := 8) (v := undef) rfl (by kernel_rfl) (by kernel_rfl) (by kernel_rfl) (fun _ _ _ h => h) (Or.inr ⟨by kernel_rfl, rfl⟩) hHeld ?_
           (try simp only [Act.put, putL])
           refine wpAnyH_take (i := 9) (v := undef) rfl (by kernel_rfl) (by kernel_rfl) (by kernel_rfl) (fun _ _ _ h => h) (Or.inr ⟨by kernel_rfl, rfl⟩) hHeld ?_
           (try simp only [Act.put, putL])
           refine wpAnyH_take (i := 10) (v := undef) rfl (by kernel_rfl) (by kernel_rfl) (by kernel_rfl) (fun _ _ _ h => h) (Or.inr ⟨by kernel_rfl, rfl⟩) hHeld ?_
           (try simp only [Act.put, putL])
           refine wpAnyH_take (i := 11) (v := undef) rfl (by kernel_rfl) (by kernel_rfl) (by kernel_rfl) (fun _ _ _ h => h) (Or.inr ⟨by kernel_rfl, rfl⟩) hHeld ?_
           (try simp only [Act.put, putL])
           refine wpAnyH_take (i := 12) (v := undef) rfl (by kernel_rfl) (by kernel_rfl) (by kernel_rfl) (fun _ _ _ h => h) (Or.inr ⟨by kernel_rfl, rfl⟩) hHeld ?_
           (try simp only [Act.put, putL])
           refine wpAnyH_take (i := 13) (v := undef) rfl (by kernel_rfl) (by kernel_rfl) (by kernel_rfl) (fun _ _ _ h => h) (Or.inr ⟨by kernel_rfl, rfl⟩) hHeld ?_
           (try simp only [Act.put, putL])
           refine wpAnyH_take (i := 14) (v := undef) rfl (by kernel_rfl) (by kernel_rfl) (by kernel_rfl) (fun _ _ _ h => h) (Or.inr ⟨by kernel_rfl, rfl⟩) hHeld ?_
           (try simp only [Act.put, putL])
           refine wpAnyH_take (i := 15) (v := undef) rfl (by kernel_rfl) (by kernel_rfl) (by kernel_rfl) (fun _ _ _ h => h) (Or.inr ⟨by kernel_rfl, rfl⟩) hHeld ?_
           (try simp only [Act.put, putL])
           refine wpAnyH_take (i := 16) (v := undef) rfl (by kernel_rfl) (by kernel_rfl) (by kernel_rfl) (fun _ _ _ h => h) (Or.inr ⟨by kernel_rfl, rfl⟩) hHeld ?_
           (try simp only [Act.put, putL])
           refine wpAnyH_take (i := 17) (v := undef) rfl (by kernel_rfl) (by kernel_rfl) (by kernel_rfl) (fun _ _ _ h => h) (Or.inr ⟨by kernel_rfl, rfl⟩) hHeld ?_
           (try simp only [Act.put, putL])
           refine wpAnyH_take (i := 18) (v := undef) rfl (by kernel_rfl) (by kernel_rfl) (by kernel_rfl) (fun _ _ _ h => h) (Or.inr ⟨by kernel_rfl, rfl⟩) hHeld ?_
           (try simp only [Act.put, putL])
           refine wpAnyH_take (i := 19) (v := undef) rfl (by kernel_rfl) (by kernel_rfl) (by kernel_rfl) (fun _ _ _ h => h) (Or.inr ⟨by kernel_rfl, rfl⟩) hHeld ?_
           (try simp only [Act.put, putL])
           refine wpAnyH_take (i := 20) (v := undef) rfl (by kernel_rfl) (by kernel_rfl) (by kernel_rfl) (fun _ _ _ h => h) (Or.inr ⟨by kernel_rfl, rfl⟩) hHeld ?_
           (try simp only [Act.put, putL])
           refine wpAnyH_take (i := 21) (v := undef) rfl (by kernel_rfl) (by kernel_rfl) (by kernel_rfl) (fun _ _ _ h => h) (Or.inr ⟨by kernel_rfl, rfl⟩) hHeld ?_
           (try simp only [Act.put, putL])
           refine wpAnyH_take (i := 22) (v := undef) rfl (by kernel_rfl) (by kernel_rfl) (by kernel_rfl) (fun _ _ _ h => h) (Or.inr ⟨by kernel_rfl, rfl⟩) hHeld ?_
           (try simp only [Act.put, putL])
           refine wpAnyH_take (i := 23) (v := undef) rfl (by kernel_rfl) (by kernel_rfl) (by kernel_rfl) (fun _ _ _ h => h) (Or.inr ⟨by kernel_rfl, rfl⟩) hHeld ?_
           (try simp only [Act.put, putL])
           refine wpAnyH_take (i := 24) (v := ?_) rfl (by kernel_rfl) (by kernel_rfl) (by kernel_rfl) (fun _ _ _ h => h) (Or.inl ⟨by kernel_rfl, ?_⟩) hHeld ?_
           rotate_left
           ·(rintro W e0; go_simp; (try with_reducible rfl))
           (try simp only [Act.put, putL])
           refine wpAnyH_take (i := 25) (v := ?_) rfl (by kernel_rfl) (by kernel_rfl) (by kernel_rfl) (fun _ _ _ h => h) (Or.inl ⟨by kernel_rfl, ?_⟩) hHeld ?_
           rotate_left
           ·(rintro W e0; go_simp; (try with_reducible rfl))
           (try simp only [Act.put, putL])
           refine wpAnyH_ready (rs := [26]) (by kernel_rfl) (by simp) ?_
           refine AllReadyH.cons rfl (fun K hK => ?_) AllReadyH.nil
           go_simp
           refine hK.out _ _ (HSt6.out) (fun hHeld => ?_)
           clear hK K
           (try simp only [Act.put, putL])
           refine wpAnyH_done (by kernel_rfl) ?_ _
           clear hst hHeld
           go_wp2_with fail
           go_roundw
           case rel => exact ⟨k + 1, false, HKl.out, by go_num, HO6.out, (fun h => by cases h), fun _ => ⟨HC2.out.1, HNx.out⟩⟩
           case measure => have := HKl.out; simp [intOf]; omega
          case true =>
           have hki : k ≠ i := fun h => by have := HFk.out; rw [← h, HFk2.out] at this; cases this
           have HKi := Lib.hid hki
           obtain ⟨_, ⟨p2, hp2⟩, _⟩ := HOk2.out k HFk2.out
           obtain ⟨y, hy⟩ : ∃ y, ws[k]? = some y := ⟨_, List.getElem?_eq_getElem (by rw [HL.out]; exact HKl.out)⟩
           have htk := taken_atP HKl.out hy
           obtain ⟨_, _, h2, _, g0⟩ := HW.out.at' HOd.out.2 hy
           cases h2
           obtain ⟨_, _, h2, hbk, _, e1⟩ := HT.out.at' HOd.out.2 HKl.out
           cases h2
           obtain ⟨_, _, h2, _, c0, _⟩ := HT.out.at' HOd.out.2 hlt
           cases h2
           have HOf := Lib.hid (HT.out.2 _ (List.getElem_mem HKl.out)).1
           have hxn : (ts[i]'hlt).name = xn := HXn.out
           rw [hxn] at c0
           generalize ts[k]'HKl.out = pk at e1 htk HOf
           obtain ⟨kn, ko, ka, kc⟩ := pk
           simp only [DPack.ov] at e1 htk HOf
           rw [hp2] at htk
           have hyl : y < ko.length := by
            rcases Nat.lt_or_ge y ko.length with h | h
            ·exact h
            ·rw [List.getElem?_eq_none h] at htk; cases htk
           have y0 : (0 : Int) ≤ (y : Int) := by omega
           have y1 : (y : Int) < (ko.length : Int) := by omega
           obtain ⟨bo, oo, rfl, hbo, o0, o1, o2, o3, o4, o5⟩ := HOf.out.1.at' HOd.out.2 hyl
           have hook := HOf.out.2 _ (List.getElem_mem hyl)
           rw [List.getElem?_eq_getElem hyl] at htk
           generalize ko[y]'hyl = ov at o0 o1 o2 o3 o4 o5 hook htk
           obtain ⟨ov, oy, ons, ona, onc⟩ := ov
           simp only [DOff.nv] at o0 o1 o2 o3 o4 o5
           have HTk2 : Hid (takenL (ppL ts) ws k = some (DOff.po ⟨ov, oy, ons, ona, onc⟩)) := by show _ = _; rw [hp2, htk]; rfl
           have HNd : Hid (∀ W, Below w.heap.size w W → Calls Tryz.prog 91 #[.agg #[.int .i64 ov.a, .int .i64 ov.b, .int .i64 ov.c, .string ov.p, .bool oy, .slice ona ons.length onc], .string xn] W (NdPost ⟨ov, oy, ons, ona, onc⟩ (namL (ppL ts) i) W)) := fun W hW => by
            have h := rneeded_any ⟨ov, oy, ons, ona, onc⟩ (namL (ppL ts) i) W (DOff.ok.below hook hW (Nat.le_refl _))
            rw [HTk.out.2, S_of] at h
            rw [HTk.out.2]
            exact h
           have hst : GrB w.heap.size k bx (ox + k * 2 + 1) (.slice (some ⟨bo, oo, none⟩) ko.length kc) bw (ow + k) y bo (oo + y * 6) (.int .i64 ov.a) (.int .i64 ov.b) (.int .i64 ov.c) (.string ov.p) (.bool oy) (.slice ona ons.length onc) (ox + i * 2) xn w wr.drew := ⟨cell_on rk hd, ⟨e1, g0, c0⟩, ⟨o0, o1, o2, o3, o4, o5⟩, HOd.out.2⟩
           have HNe : Hid (bx ≠ w.heap.size ∧ bw ≠ w.heap.size ∧ bo ≠ w.heap.size) := ⟨Nat.ne_of_lt hbx, Nat.ne_of_lt hbw, Nat.ne_of_lt hbo⟩
           clear hki hp2 hy htk hook rk hd e1 g0 c0 o0 o1 o2 o3 o4 o5 hxn hyl
           go_wp2_with fail
           refine wp_region_held_drew (S := (fun W => GrB w.heap.size k bx (ox + k * 2 + 1) (.slice (some ⟨bo, oo, none⟩) ko.length kc) bw (ow + k) y bo (oo + y * 6) (.int .i64 ov.a) (.int .i64 ov.b) (.int .i64 ov.c) (.string ov.p) (.bool oy) (.slice ona ons.length onc) (ox + i * 2) xn w W)) (by kernel_rfl) (hst) (fun hHeld => ?_)
           refine wpAnyH_take (i := 0) (v := ?_) rfl (by kernel_rfl) (by kernel_rfl) (by kernel_rfl) (fun _ _ _ h => h) (Or.inl ⟨by kernel_rfl, ?_⟩) hHeld ?_
           rotate_left
           ·(rintro W ⟨e0, ⟨e1, e2, e3⟩, ⟨e4, e5, e6, e7, e8, e9⟩, _⟩; go_simp; (try with_reducible rfl))
           (try simp only [Act.put, putL])
           refine wpAnyH_take (i := 1) (v := ?_) rfl (by kernel_rfl) (by kernel_rfl) (by kernel_rfl) (fun _ _ _ h => h) (Or.inl ⟨by kernel_rfl, ?_⟩) hHeld ?_
           rotate_left
           ·(rintro W ⟨e0, ⟨e1, e2, e3⟩, ⟨e4, e5, e6, e7, e8, e9⟩, _⟩; go_simp; (try with_reducible rfl))
           (try simp only [Act.put, putL])
           refine wpAnyH_take (i := 2) (v := ?_) rfl (by kernel_rfl) (by kernel_rfl) (by kernel_rfl) (fun _ _ _ h => h) (Or.inl ⟨by kernel_rfl, ?_⟩) hHeld ?_
           rotate_left
           ·(rintro W ⟨e0, ⟨e1, e2, e3⟩, ⟨e4, e5, e6, e7, e8, e9⟩, _⟩; go_simp; (try with_reducible rfl))
           (try simp only [Act.put, putL])
           refine wpAnyH_take (i := 3) (v := ?_) rfl (by kernel_rfl) (by kernel_rfl) (by kernel_rfl) (fun _ _ _ h => h) (Or.inl ⟨by kernel_rfl, ?_⟩) hHeld ?_
           rotate_left
           ·(rintro W ⟨e0, ⟨e1, e2, e3⟩, ⟨e4, e5, e6, e7, e8, e9⟩, _⟩; go_simp; (try with_reducible rfl))
           (try simp only [Act.put, putL])
           refine wpAnyH_take (i := 4) (v := ?_) rfl (by kernel_rfl) (by kernel_rfl) (by kernel_rfl) (fun _ _ _ h => h) (Or.inl ⟨by kernel_rfl, ?_⟩) hHeld ?_
           rotate_left
           ·(rintro W ⟨e0, ⟨e1, e2, e3⟩, ⟨e4, e5, e6, e7, e8, e9⟩, _⟩; go_simp; (try with_reducible rfl))
           (try simp only [Act.put, putL])
           refine wpAnyH_take (i := 5) (v := ?_) rfl (by kernel_rfl) (by kernel_rfl) (by kernel_rfl) (fun _ _ _ h => h) (Or.inl ⟨by kernel_rfl, ?_⟩) hHeld ?_
           rotate_left
           ·(rintro W ⟨e0, ⟨e1, e2, e3⟩, ⟨e4, e5, e6, e7, e8, e9⟩, _⟩; go_simp; (try with_reducible rfl))
           (try simp only [Act.put, putL])
           refine wpAnyH_take (i := 6) (v := ?_) rfl (by kernel_rfl) (by kernel_rfl) (by kernel_rfl) (fun _ _ _ h => h) (Or.inl ⟨by kernel_rfl, ?_⟩) hHeld ?_
           rotate_left
           ·(rintro W ⟨e0, ⟨e1, e2, e3⟩, ⟨e4, e5, e6, e7, e8, e9⟩, _⟩; go_simp; (try with_reducible rfl))
           (try simp only [Act.put, putL])
           refine wpAnyH_take (i := 7) (v := ?_) rfl (by kernel_rfl) (by kernel_rfl) (by kernel_rfl) (fun _ _ _ h => h) (Or.inl ⟨by kernel_rfl, ?_⟩) hHeld ?_
           rotate_left
           ·(rintro W ⟨e0, ⟨e1, e2, e3⟩, ⟨e4, e5, e6, e7, e8, e9⟩, _⟩; go_simp; (try with_reducible rfl))
           (try simp only [Act.put, putL])
           refine wpAnyH_take (i := 8) (v := ?_) rfl (by kernel_rfl) (by kernel_rfl) (by kernel_rfl) (fun _ _ _ h => h) (Or.inl ⟨by kernel_rfl, ?_⟩) hHeld ?_
           rotate_left
           ·(rintro W ⟨e0, ⟨e1, e2, e3⟩, ⟨e4, e5, e6, e7, e8, e9⟩, _⟩; go_simp; (try with_reducible rfl))
           (try simp only [Act.put, putL])
           refine wpAnyH_take (i := 9) (v := ?_) rfl (by kernel_rfl) (by kernel_rfl) (by kernel_rfl) (fun _ _ _ h => h) (Or.inl ⟨by kernel_rfl, ?_⟩) hHeld ?_
           rotate_left
           ·(rintro W ⟨e0, ⟨e1, e2, e3⟩, ⟨e4, e5, e6, e7, e8, e9⟩, _⟩; go_simp; (try with_reducible rfl))
           (try simp only [Act.put, putL])
           refine wpAnyH_take (i := 10) (v := ?_) rfl (by kernel_rfl) (by kernel_rfl) (by kernel_rfl) (fun _ _ _ h => h) (Or.inl ⟨by kernel_rfl, ?_⟩) hHeld ?_
           rotate_left
           ·(rintro W ⟨e0, ⟨e1, e2, e3⟩, ⟨e4, e5, e6, e7, e8, e9⟩, _⟩; go_simp; (try with_reducible rfl))
           (try simp only [Act.put, putL])
           refine wpAnyH_take (i := 11) (v := ?_) rfl (by kernel_rfl) (by kernel_rfl) (by kernel_rfl) (fun _ _ _ h => h) (Or.inl ⟨by kernel_rfl, ?_⟩) hHeld ?_
           rotate_left
           ·(rintro W ⟨e0, ⟨e1, e2, e3⟩, ⟨e4, e5, e6, e7, e8, e9⟩, _⟩; go_simp; (try with_reducible rfl))
           (try simp only [Act.put, putL])
           refine wpAnyH_take (i := 12) (v := ?_) rfl (by kernel_rfl) (by kernel_rfl) (by kernel_rfl) (fun _ _ _ h => h) (Or.inl ⟨by kernel_rfl, ?_⟩) hHeld ?_
           rotate_left
           ·(rintro W ⟨e0, ⟨e1, e2, e3⟩, ⟨e4, e5, e6, e7, e8, e9⟩, _⟩; go_simp; (try with_reducible rfl))
           (try simp only [Act.put, putL])
           refine wpAnyH_take (i := 13) (v := ?_) rfl (by kernel_rfl) (by kernel_rfl) (by kernel_rfl) (fun _ _ _ h => h) (Or.inl ⟨by kernel_rfl, ?_⟩) hHeld ?_
           rotate_left
           ·(rintro W ⟨e0, ⟨e1, e2, e3⟩, ⟨e4, e5, e6, e7, e8, e9⟩, _⟩; go_simp; (try with_reducible rfl))
           (try simp only [Act.put, putL])
           refine wpAnyH_take (i := 14) (v := ?_) rfl (by kernel_rfl) (by kernel_rfl) (by kernel_rfl) (fun _ _ _ h => h) (Or.inl ⟨by kernel_rfl, ?_⟩) hHeld ?_
           rotate_left
           ·(rintro W ⟨e0, ⟨e1, e2, e3⟩, ⟨e4, e5, e6, e7, e8, e9⟩, _⟩; go_simp; (try with_reducible rfl))
           (try simp only [Act.put, putL])
           refine wpAnyH_take (i := 15) (v := ?_) rfl (by kernel_rfl) (by kernel_rfl) (by kernel_rfl) (fun _ _ _ h => h) (Or.inl ⟨by kernel_rfl, ?_⟩) hHeld ?_
           rotate_left
           ·(rintro W ⟨e0, ⟨e1, e2, e3⟩, ⟨e4, e5, e6, e7, e8, e9⟩, _⟩; go_simp; (try with_reducible rfl))
           (try simp only [Act.put, putL])
           refine wpAnyH_take (i := 16) (v := ?_) rfl (by kernel_rfl) (by kernel_rfl) (by kernel_rfl) (fun _ _ _ h => h) (Or.inl ⟨by kernel_rfl, ?_⟩) hHeld ?_
           rotate_left
           ·(rintro W ⟨e0, ⟨e1, e2, e3⟩, ⟨e4, e5, e6, e7, e8, e9⟩, _⟩; go_simp; (try with_reducible rfl))
           (try simp only [Act.put, putL])
           refine wpAnyH_take (i := 17) (v := ?_) rfl (by kernel_rfl) (by kernel_rfl) (by kernel_rfl) (fun _ _ _ h => h) (Or.inl ⟨by kernel_rfl, ?_⟩) hHeld ?_
           rotate_left
           ·(rintro W ⟨e0, ⟨e1, e2, e3⟩, ⟨e4, e5, e6, e7, e8, e9⟩, _⟩; go_simp; (try with_reducible rfl))
           (try simp only [Act.put, putL])
           refine wpAnyH_take (i := 18) (v := ?_) rfl (by kernel_rfl) (by kernel_rfl) (by kernel_rfl) (fun _ _ _ h => h) (Or.inl ⟨by kernel_rfl, ?_⟩) hHeld ?_
           rotate_left
           ·(rintro W ⟨e0, ⟨e1, e2, e3⟩, ⟨e4, e5, e6, e7, e8, e9⟩, _⟩; go_simp; (try with_reducible rfl))
           (try simp only [Act.put, putL])
           refine wpAnyH_take (i := 19) (v := ?_) rfl (by kernel_rfl) (by kernel_rfl) (by kernel_rfl) (fun _ _ _ h => h) (Or.inl ⟨by kernel_rfl, ?_⟩) hHeld ?_
           rotate_left
           ·(rintro W ⟨e0, ⟨e1, e2, e3⟩, ⟨e4, e5, e6, e7, e8, e9⟩, _⟩; go_simp; (try with_reducible rfl))
           (try simp only [Act.put, putL])
           refine wpAnyH_take (i := 20) (v := ?_) rfl (by kernel_rfl) (by kernel_rfl) (by kernel_rfl) (fun _ _ _ h => h) (Or.inl ⟨by kernel_rfl, ?_⟩) hHeld ?_
           rotate_left
           ·(rintro W ⟨e0, ⟨e1, e2, e3⟩, ⟨e4, e5, e6, e7, e8, e9⟩, _⟩; go_simp; (try with_reducible rfl))
           (try simp only [Act.put, putL])
           refine wpAnyH_take (i := 21) (v := ?_) rfl (by kernel_rfl) (by kernel_rfl) (by kernel_rfl) (fun _ _ _ h => h) (Or.inl ⟨by kernel_rfl, ?_⟩) hHeld ?_
           rotate_left
           ·(rintro W ⟨e0, ⟨e1, e2, e3⟩, ⟨e4, e5, e6, e7, e8, e9⟩, _⟩; go_simp; (try with_reducible rfl))
           (try simp only [Act.put, putL])
           refine wpAnyH_take (i := 22) (v := ?_) rfl (by kernel_rfl) (by kernel_rfl) (by kernel_rfl) (fun _ _ _ h => h) (Or.inl ⟨by kernel_rfl, ?_⟩) hHeld ?_
           rotate_left
           ·(rintro W ⟨e0, ⟨e1, e2, e3⟩, ⟨e4, e5, e6, e7, e8, e9⟩, _⟩; go_simp; (try with_reducible rfl))
           (try simp only [Act.put, putL])
           refine wpAnyH_ready (rs := [23]) (by kernel_rfl) (by simp) ?_
           refine AllReadyH.cons rfl (fun K hK => ?_) AllReadyH.nil
           go_simp
           refine (HNd.out _ hHeld.2.2.2).mono ?_
           rintro e w12 ⟨⟨b, rfl, hbq⟩, hk12⟩
           have HBq := Lib.hid hbq
           have HO12 := Lib.hid (HOd.out.on hk12)
           obtain ⟨r12, fr12, z12⟩ : w12.cell? ⟨w.heap.size, i, none⟩ = some (.bool false) ∧ w12.frozen? ⟨w.heap.size, i, none⟩ = false ∧ w.heap.size < w12.heap.size := ⟨by simpa [putF] using HO12.out.1.cell hlt, HO12.out.1.frozen i, HO12.out.1.lt⟩
           clear hbq
           refine hK.out _ _ (hHeld.on hk12) (fun hHeld => ?_)
           clear hK K
           (try simp only [Act.put, putL])
           refine wpAnyH_take (i := 24) (v := ?_) rfl (by kernel_rfl) (by kernel_rfl) (by kernel_rfl) (fun _ _ _ h => h) (Or.inl ⟨by kernel_rfl, ?_⟩) hHeld ?_
           rotate_left
           ·(rintro W ⟨e0, ⟨e1, e2, e3⟩, ⟨e4, e5, e6, e7, e8, e9⟩, _⟩; go_simp; (try with_reducible rfl))
           (try simp only [Act.put, putL])
           refine wpAnyH_take (i := 25) (v := ?_) rfl (by kernel_rfl) (by kernel_rfl) (by kernel_rfl) (fun _ _ _ h => h) (Or.inl ⟨by kernel_rfl, ?_⟩) hHeld ?_
           rotate_left
           ·(rintro W ⟨e0, ⟨e1, e2, e3⟩, ⟨e4, e5, e6, e7, e8, e9⟩, _⟩; go_simp; (try with_reducible rfl))
           (try simp only [Act.put, putL])
           refine wpAnyH_ready (rs := [26]) (by kernel_rfl) (by simp) ?_
           refine AllReadyH.cons rfl (fun K hK => ?_) AllReadyH.nil
           go_simp
           refine hK.out _ _ (hHeld.set HNe.out (Nat.le_refl _) HKi.out _) (fun hHeld => ?_)
           clear hK K
           (try simp only [Act.put, putL])
           refine wpAnyH_done (by kernel_rfl) ?_ _
           have HO7 := Lib.hid (HO12.out.put i b)
           have hO7 := HO7.out
           rw [HE6.out b] at hO7
           have HO8 := Lib.hid hO7
           clear hO7 hst hHeld r12 fr12 z12
           have HStp : Hid (b = true ↔ StepG (ppL ts) ws k i) := by
            show _ ↔ _
            rw [HBq.out]
            exact ⟨fun h => ⟨hiT, HTp.out, _, HTk2.out, h⟩, fun ⟨_, _, o, h1, h2⟩ => by rw [HTk2.out] at h1; injection h1 with h1; subst h1; exact h2⟩
           go_wp2_with fail
           go_roundw
           case rel =>
            refine ⟨k + 1, b, HKl.out, by go_num, HO8.out, fun h => .inr ⟨k, HFk2.out, HStp.out.1 h⟩, fun h => ⟨HC2.out.1, fun j hj hf => ?_⟩⟩
            rcases Nat.lt_succ_iff_lt_or_eq.1 hj with h' | rfl
            ·exact HC2.out.2 j h' hf
            ·intro hs
             rw [HStp.out.2 hs] at h; cases h
           case measure => have := HKl.out; simp [intOf]; omega
    ·have i1 : decide (i < ts.length) = false := decide_eq_false hlt
     have HF : Hid (∃ g', g' < gk ∧ RgRel ts (askN needs) ws w g' (.bool more) wr) := by
      have hg := HG.out
      cases hmo : more with
      | true =>
       refine ⟨offN f1 ts.length + 1, ?_, true, f1, rfl, HO2.out, HOk2.out, rfl, (fun h => by cases h)⟩
       have := HM.out.1 hmo
       simp only [if_true] at hg; omega
      | false =>
       obtain ⟨h1, h2⟩ := HM.out.2 hmo
       refine ⟨offN f1 ts.length, ?_, false, f1, rfl, HO2.out, HOk2.out, rfl, fun _ i hi hp hf => h2 i (by rw [ppL_len] at hi; omega) hp hf⟩
       rw [h1]; simp only [if_true] at hg; omega
     clear hlt hOn
     obtain ⟨g', hg', hrel'⟩ := HF.out
     have HRl := Lib.hid hrel'
     clear hrel'
     go_wp2_with fail
     go_roundg g'
     case rel => exact HRl.out
     case measure => exact hg'
end Go.Proofs.YtbgimpeklblcjaaGreatDoor
