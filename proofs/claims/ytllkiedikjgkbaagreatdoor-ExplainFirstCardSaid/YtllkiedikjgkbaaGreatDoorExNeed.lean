/- Explain: what is written of a need, of an offer, of a pick: walks. -/
import Derived.Test.YtllkiedikjgkbaaGreatDoorExLines
import Derived.Test.YtllkiedikjgkbaaGreatDoorExRan
namespace Go
open Go.RowKit
theorem add_asE {P : Program} {a b c : ByteArray} (h : a ++ b = c) (hs : c.size ≤ 10000000) (W : World) : (Op.stringOp .add a b).run P W = .ok (.string c) W := by
  subst h
  exact run_string_add_sum W _ _ (by rw [ByteArray.size_append] at hs; omega)
theorem S_sizeE (l : List UInt8) : (S l).size = l.length := by simp [S, ByteArray.size]
theorem showR_lenE {bs : List Bnd} (h : rangeOk bs = true) : (showR bs).length ≤ 2000 := by
  unfold showR
  split
  · simp
  · unfold rangeOk at h
    simp only [Bool.and_eq_true, decide_eq_true_eq, List.all_eq_true] at h
    have := joinAt_len 32 60 (bs.map Bnd.show) (fun p hp => by obtain ⟨b, hb, rfl⟩ := List.mem_map.1 hp; exact show_len (h.2 b hb))
    rw [List.length_map] at this
    unfold showB
    have := h.1
    omega
theorem verShow_len {v : V4} (h : v.ok = true) : v.show.length ≤ 45 := by
  have hb := verOk_bounds h
  exact showL_len (by omega) (by omega) (by omega) hb.2.2.2.2.2.2.1
theorem needT_len {x : Want × Value} (hn : x.1.name.length ≤ 100) (h : rangeOk x.1.bs = true) : (needT x).length ≤ 3000 := by
  have := showR_lenE h
  unfold needT; simp; omega
theorem offT_len {o : DOff} (h : o.v.ok = true) : (offT o).length ≤ 100 := by
  have := verShow_len h
  unfold offT; split <;> simp <;> omega
theorem pikT_len {p : Pik} (hn : p.nm.length ≤ 100) (h : p.v.ok = true) : (pikT p).length ≤ 300 := by
  have := verShow_len h
  unfold pikT; simp; omega
end Go
namespace Go.Proofs.YtllkiedikjgkbaaGreatDoor
open Go.RowKit Go.Maps
set_option maxRecDepth 100000 in
set_option maxHeartbeats 4000000 in
theorem need_any (x : Want) (ra : Option Addr) (rc : Nat) (w : World) (hb : Bnds w (.slice ra x.bs.length rc) x.bs) (hE : EnvI w) (hn : x.name.length ≤ 100) (hok : rangeOk x.bs = true) (hp : ∀ b ∈ x.bs, b.v.p.size ≤ 9223372036854775807) :
    Calls Tryz.prog 82 #[.agg #[.string (S x.name), .slice ra x.bs.length rc]] w fun e w' => e = .returned (.string (S (needT (x, .slice ra x.bs.length rc)))) ∧ Below w.heap.size w w' := by
  have hx1 := Below.refl (w.heap.size + 1) (w.alloc (.cells #[.string (S x.name), .slice ra x.bs.length rc] 35))
  have hW1 := below_first hx1
  have HX := Lib.hid hx1
  have HW1 := Lib.hid hW1
  have HSh := Lib.hid (rshow_yes _ x.bs _ (hb.below hW1 (Nat.le_refl _)) ⟨_, _, rfl⟩ (hE.below hW1) hp hok)
  have hl := showR_lenE hok
  have r1 := fun W => add_asE (P := Tryz.prog) (a := S x.name) (b := ⟨#[32]⟩) (c := S (x.name ++ [32])) (S_append _ [32]) (by rw [S_sizeE]; simp; omega) W
  have r2 := fun W => add_asE (P := Tryz.prog) (a := S (x.name ++ [32])) (b := S (showR x.bs)) (c := S (x.name ++ [32] ++ showR x.bs)) (S_append _ _) (by rw [S_sizeE]; simp; omega) W
  have r3 := fun W => add_asE (P := Tryz.prog) (a := S (x.name ++ [32] ++ showR x.bs)) (b := ⟨#[10]⟩) (c := S (x.name ++ [32] ++ showR x.bs ++ [10])) (S_append _ [10]) (by rw [S_sizeE]; simp; omega) W
  have hT : x.name ++ [32] ++ showR x.bs ++ [10] = needT (x, .slice ra x.bs.length rc) := by unfold needT; simp
  rw [hT] at r3
  generalize S (x.name ++ [32] ++ showR x.bs) = A2 at r2 r3
  generalize S (x.name ++ [32]) = A1 at r1 r2
  have b1 := box_cells hx1 1
  simp only [List.getElem?_toArray, List.getElem?_cons_zero, List.getElem?_cons_succ] at b1
  clear hb hE hn hok hp hx1 hW1 hl hT
  go_enter Tryz.func82, Tryz.ntmps82
  go_wp2_with fail
  refine HSh.out.mono ?_
  rintro e w2 ⟨rfl, hb2⟩
  have hx2 := box_then HX.out hb2
  have d0 := box_cells hx2 0
  simp only [List.getElem?_toArray, List.getElem?_cons_zero] at d0
  have HB2 := Lib.hid (below_then HW1.out hb2)
  clear hx2 hb2 b1
  go_wp2_with fail
  go_ret
  exact ⟨rfl, HB2.out⟩
set_option maxRecDepth 100000 in
set_option maxHeartbeats 4000000 in
theorem offer_any (o : DOff) (w : World) (hE : EnvI w) (hok : o.v.ok = true) :
    Calls Tryz.prog 84 #[.agg #[.int .i64 o.v.a, .int .i64 o.v.b, .int .i64 o.v.c, .string o.v.p, .bool o.y, o.nv]] w fun e w' => e = .returned (.string (S (offT o))) ∧ Below w.heap.size w w' := by
  obtain ⟨v, y, ns, na, nc⟩ := o
  simp only [DOff.nv] at hok ⊢
  have hx1 := Below.refl (w.heap.size + 1) (w.alloc (.cells #[.int .i64 v.a, .int .i64 v.b, .int .i64 v.c, .string v.p, .bool y, .slice na ns.length nc] 39))
  have hW1 := below_first hx1
  have HX := Lib.hid hx1
  have HW1 := Lib.hid hW1
  have HSh := Lib.hid (showQ_any v hok (S v.show) rfl _ (hE.below hW1))
  have hl := verShow_len hok
  have r1 := fun W => add_asE (P := Tryz.prog) (a := S v.show) (b := ⟨#[45]⟩) (c := S (v.show ++ [45])) (S_append _ [45]) (by rw [S_sizeE]; simp; omega) W
  have r2 := fun W => add_asE (P := Tryz.prog) (a := ⟨#[32]⟩) (b := S v.show) (c := S (32 :: v.show)) (S_append [32] _) (by rw [S_sizeE]; simp; omega) W
  have r3 := fun W => add_asE (P := Tryz.prog) (a := ⟨#[32]⟩) (b := S (v.show ++ [45])) (c := S (32 :: (v.show ++ [45]))) (S_append [32] _) (by rw [S_sizeE]; simp; omega) W
  have b0 := box_cells hx1 0
  have b1 := box_cells hx1 1
  have b2 := box_cells hx1 2
  have b3 := box_cells hx1 3
  simp only [List.getElem?_toArray, List.getElem?_cons_zero, List.getElem?_cons_succ] at b0 b1 b2 b3
  clear hE hok hx1 hW1 hl
  go_enter Tryz.func84, Tryz.ntmps84
  go_wp2_with fail
  refine HSh.out.mono ?_
  rintro e w2 ⟨rfl, hb2⟩
  have hx2 := box_then HX.out hb2
  have d4 := box_cells hx2 4
  simp only [List.getElem?_toArray, List.getElem?_cons_zero, List.getElem?_cons_succ] at d4
  have HB2 := Lib.hid (below_then HW1.out hb2)
  clear hx2 hb2 b0 b1 b2 b3
  cases y
  · have hT : Hid (32 :: v.show = offT ⟨v, false, ns, na, nc⟩) := by show _ = _; unfold offT; simp
    go_wp2_with fail
    go_ret
    exact ⟨by rw [← hT.out]; rfl, HB2.out⟩
  · have hT : Hid (32 :: (v.show ++ [45]) = offT ⟨v, true, ns, na, nc⟩) := by show _ = _; unfold offT; simp
    go_wp2_with fail
    go_ret
    exact ⟨by rw [← hT.out]; rfl, HB2.out⟩
set_option maxRecDepth 100000 in
set_option maxHeartbeats 4000000 in
theorem pickT_any (x : Pik) (w : World) (hE : EnvI w) (hn : x.nm.length ≤ 100) (hok : x.v.ok = true) :
    Calls Tryz.prog 90 #[.agg #[.string x.name, .int .i64 x.v.a, .int .i64 x.v.b, .int .i64 x.v.c, .string x.v.p]] w fun e w' => e = .returned (.string (S (pikT x))) ∧ Below w.heap.size w w' := by
  obtain ⟨xn, v⟩ := x
  simp only at hok hn ⊢
  have hxn : xn = S xn.data.toList := (S_of xn).symm
  have hx1 := Below.refl (w.heap.size + 1) (w.alloc (.cells #[.string xn, .int .i64 v.a, .int .i64 v.b, .int .i64 v.c, .string v.p] 45))
  have hW1 := below_first hx1
  have HX := Lib.hid hx1
  have HW1 := Lib.hid hW1
  have HSh := Lib.hid (showQ_any v hok (S v.show) rfl _ (hE.below hW1))
  have hl := verShow_len hok
  have hn2 : xn.data.toList.length ≤ 100 := hn
  have r1 := fun W => add_asE (P := Tryz.prog) (a := xn) (b := ⟨#[32]⟩) (c := S (xn.data.toList ++ [32])) (by rw [← S_append]; rfl) (by rw [S_sizeE]; simp at hn2 ⊢; omega) W
  have r2 := fun W => add_asE (P := Tryz.prog) (a := S (xn.data.toList ++ [32])) (b := S v.show) (c := S (xn.data.toList ++ [32] ++ v.show)) (S_append _ _) (by rw [S_sizeE]; simp at hn2 ⊢; omega) W
  have r3 := fun W => add_asE (P := Tryz.prog) (a := S (xn.data.toList ++ [32] ++ v.show)) (b := ⟨#[10]⟩) (c := S (xn.data.toList ++ [32] ++ v.show ++ [10])) (S_append _ [10]) (by rw [S_sizeE]; simp at hn2 ⊢; omega) W
  have hT : xn.data.toList ++ [32] ++ v.show ++ [10] = pikT ⟨xn, v⟩ := by unfold pikT Pik.nm; simp
  rw [hT] at r3
  generalize S (xn.data.toList ++ [32] ++ v.show) = A2 at r2 r3
  generalize S (xn.data.toList ++ [32]) = A1 at r1 r2
  have b1 := box_cells hx1 1
  have b2 := box_cells hx1 2
  have b3 := box_cells hx1 3
  have b4 := box_cells hx1 4
  simp only [List.getElem?_toArray, List.getElem?_cons_zero, List.getElem?_cons_succ] at b1 b2 b3 b4
  clear hE hok hx1 hW1 hl hn hn2 hT hxn
  go_enter Tryz.func90, Tryz.ntmps90
  go_wp2_with fail
  refine HSh.out.mono ?_
  rintro e w2 ⟨rfl, hb2⟩
  have hx2 := box_then HX.out hb2
  have d0 := box_cells hx2 0
  simp only [List.getElem?_toArray, List.getElem?_cons_zero] at d0
  have HB2 := Lib.hid (below_then HW1.out hb2)
  clear hx2 hb2 b1 b2 b3 b4
  go_wp2_with fail
  go_ret
  exact ⟨rfl, HB2.out⟩
end Go.Proofs.YtllkiedikjgkbaaGreatDoor
