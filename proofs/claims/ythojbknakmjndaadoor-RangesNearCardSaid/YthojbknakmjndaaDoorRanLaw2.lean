/- RangesNear: the walk. -/
import Derived.Test.YthojbknakmjndaaDoorRanLaw1
namespace Go.Proofs.YthojbknakmjndaaDoor
open Go.RowKit
set_option maxRecDepth 100000 in
set_option maxHeartbeats 4000000 in
theorem rangesNear_walk (v x : V4) (w : World) (hE : Env w) (hp : v.p.size ≤ 9223372036854775807) (hp' : x.p.size ≤ 9223372036854775807) :
    Calls Tryd.prog 4 #[.agg #[.int .i64 v.a, .int .i64 v.b, .int .i64 v.c, .string v.p], .agg #[.int .i64 x.a, .int .i64 x.b, .int .i64 x.c, .string x.p]] w fun e w' => e = .returned (.bool true) ∧ Below w.heap.size w w' := by
  have HE := Lib.hid hE
  clear hE
  by_cases hv : v.ok = true
  case neg =>
    have HV : Hid (verErr v.a v.b v.c v.p.data.toList = 40) := by show _ = _; rw [V4.ok_err, if_neg hv]
    clear hv
    go_enter Tryd.func4, Tryd.ntmps4
    go_wp2_with fail
    refine (checkQ_as v 40 HV.out _ ((HE.out.alloc _).alloc _) hp).mono ?_
    rintro e w1 ⟨rfl, hb1⟩
    obtain ⟨c0, d0⟩ := two_cells hb1 0
    obtain ⟨c1, d1⟩ := two_cells hb1 1
    obtain ⟨c2, d2⟩ := two_cells hb1 2
    obtain ⟨c3, d3⟩ := two_cells hb1 3
    have hW := two_below hb1
    have hB := cell_lt c0
    have hB2 := cell_lt d0
    simp at c0 c1 c2 c3 d0 d1 d2 d3
    clear hb1
    go_wp2_with fail
    refine (awake_any _ (HE.out.below hW)).mono ?_
    rintro e w9 ⟨rfl, hb9⟩
    go_wp2_with fail
    go_ret
    exact ⟨rfl, below_then hW hb9⟩
  have HV : Hid (verErr v.a v.b v.c v.p.data.toList = 0) := by show _ = _; rw [V4.ok_err, if_pos hv]
  have HVo := Lib.hid hv
  clear hv
  by_cases hx : x.ok = true
  case neg =>
    have HX : Hid (verErr x.a x.b x.c x.p.data.toList = 40) := by show _ = _; rw [V4.ok_err, if_neg hx]
    clear hx
    go_enter Tryd.func4, Tryd.ntmps4
    go_wp2_with fail
    refine (checkQ_as v 0 HV.out _ ((HE.out.alloc _).alloc _) hp).mono ?_
    rintro e w1 ⟨rfl, hb1⟩
    obtain ⟨c0, d0⟩ := two_cells hb1 0
    obtain ⟨c1, d1⟩ := two_cells hb1 1
    obtain ⟨c2, d2⟩ := two_cells hb1 2
    obtain ⟨c3, d3⟩ := two_cells hb1 3
    have hW := two_below hb1
    have hB := cell_lt c0
    have hB2 := cell_lt d0
    simp at c0 c1 c2 c3 d0 d1 d2 d3
    clear hb1
    go_wp2_with fail
    refine (checkQ_as x 40 HX.out _ (HE.out.below hW) hp').mono ?_
    rintro e w2 ⟨rfl, hb2⟩
    have c0 := (hb2.cell (p := ⟨w.heap.size, 0, none⟩) hB).trans c0
    have d0 := (hb2.cell (p := ⟨w.heap.size + 1, 0, none⟩) hB2).trans d0
    have c1 := (hb2.cell (p := ⟨w.heap.size, 1, none⟩) hB).trans c1
    have d1 := (hb2.cell (p := ⟨w.heap.size + 1, 1, none⟩) hB2).trans d1
    have c2 := (hb2.cell (p := ⟨w.heap.size, 2, none⟩) hB).trans c2
    have d2 := (hb2.cell (p := ⟨w.heap.size + 1, 2, none⟩) hB2).trans d2
    have c3 := (hb2.cell (p := ⟨w.heap.size, 3, none⟩) hB).trans c3
    have d3 := (hb2.cell (p := ⟨w.heap.size + 1, 3, none⟩) hB2).trans d3
    have hB := cell_lt c0
    have hB2 := cell_lt d0
    have hW := below_then hW hb2
    clear hb2
    go_wp2_with fail
    refine (awake_any _ (HE.out.below hW)).mono ?_
    rintro e w9 ⟨rfl, hb9⟩
    go_wp2_with fail
    go_ret
    exact ⟨rfl, below_then hW hb9⟩
  have HX : Hid (verErr x.a x.b x.c x.p.data.toList = 0) := by show _ = _; rw [V4.ok_err, if_pos hx]
  have HXo := Lib.hid hx
  clear hx
  by_cases h1 : v.a < 1
  · have q1 : decide (v.a < 1) = true := decide_eq_true h1
    clear h1
    go_enter Tryd.func4, Tryd.ntmps4
    go_wp2_with fail
    refine (checkQ_as v 0 HV.out _ ((HE.out.alloc _).alloc _) hp).mono ?_
    rintro e w1 ⟨rfl, hb1⟩
    obtain ⟨c0, d0⟩ := two_cells hb1 0
    obtain ⟨c1, d1⟩ := two_cells hb1 1
    obtain ⟨c2, d2⟩ := two_cells hb1 2
    obtain ⟨c3, d3⟩ := two_cells hb1 3
    have hW := two_below hb1
    have hB := cell_lt c0
    have hB2 := cell_lt d0
    simp at c0 c1 c2 c3 d0 d1 d2 d3
    clear hb1
    go_wp2_with fail
    refine (checkQ_as x 0 HX.out _ (HE.out.below hW) hp').mono ?_
    rintro e w2 ⟨rfl, hb2⟩
    have c0 := (hb2.cell (p := ⟨w.heap.size, 0, none⟩) hB).trans c0
    have d0 := (hb2.cell (p := ⟨w.heap.size + 1, 0, none⟩) hB2).trans d0
    have c1 := (hb2.cell (p := ⟨w.heap.size, 1, none⟩) hB).trans c1
    have d1 := (hb2.cell (p := ⟨w.heap.size + 1, 1, none⟩) hB2).trans d1
    have c2 := (hb2.cell (p := ⟨w.heap.size, 2, none⟩) hB).trans c2
    have d2 := (hb2.cell (p := ⟨w.heap.size + 1, 2, none⟩) hB2).trans d2
    have c3 := (hb2.cell (p := ⟨w.heap.size, 3, none⟩) hB).trans c3
    have d3 := (hb2.cell (p := ⟨w.heap.size + 1, 3, none⟩) hB2).trans d3
    have hB := cell_lt c0
    have hB2 := cell_lt d0
    have hW := below_then hW hb2
    clear hb2
    go_wp2_with fail
    refine (awake_any _ (HE.out.below hW)).mono ?_
    rintro e w9 ⟨rfl, hb9⟩
    go_wp2_with fail
    go_ret
    exact ⟨rfl, below_then hW hb9⟩
  have q1 : decide (v.a < 1) = false := decide_eq_false h1
  by_cases h9 : v.a = 999999
  · have q9 : (v.a == 999999) = true := by simpa using h9
    clear h1 h9
    go_enter Tryd.func4, Tryd.ntmps4
    go_wp2_with fail
    refine (checkQ_as v 0 HV.out _ ((HE.out.alloc _).alloc _) hp).mono ?_
    rintro e w1 ⟨rfl, hb1⟩
    obtain ⟨c0, d0⟩ := two_cells hb1 0
    obtain ⟨c1, d1⟩ := two_cells hb1 1
    obtain ⟨c2, d2⟩ := two_cells hb1 2
    obtain ⟨c3, d3⟩ := two_cells hb1 3
    have hW := two_below hb1
    have hB := cell_lt c0
    have hB2 := cell_lt d0
    simp at c0 c1 c2 c3 d0 d1 d2 d3
    clear hb1
    go_wp2_with fail
    refine (checkQ_as x 0 HX.out _ (HE.out.below hW) hp').mono ?_
    rintro e w2 ⟨rfl, hb2⟩
    have c0 := (hb2.cell (p := ⟨w.heap.size, 0, none⟩) hB).trans c0
    have d0 := (hb2.cell (p := ⟨w.heap.size + 1, 0, none⟩) hB2).trans d0
    have c1 := (hb2.cell (p := ⟨w.heap.size, 1, none⟩) hB).trans c1
    have d1 := (hb2.cell (p := ⟨w.heap.size + 1, 1, none⟩) hB2).trans d1
    have c2 := (hb2.cell (p := ⟨w.heap.size, 2, none⟩) hB).trans c2
    have d2 := (hb2.cell (p := ⟨w.heap.size + 1, 2, none⟩) hB2).trans d2
    have c3 := (hb2.cell (p := ⟨w.heap.size, 3, none⟩) hB).trans c3
    have d3 := (hb2.cell (p := ⟨w.heap.size + 1, 3, none⟩) hB2).trans d3
    have hB := cell_lt c0
    have hB2 := cell_lt d0
    have hW := below_then hW hb2
    clear hb2
    go_wp2_with fail
    refine (awake_any _ (HE.out.below hW)).mono ?_
    rintro e w9 ⟨rfl, hb9⟩
    go_wp2_with fail
    go_ret
    exact ⟨rfl, below_then hW hb9⟩
  have q9 : (v.a == 999999) = false := by simpa using h9
  have H1 := Lib.hid (show 1 ≤ v.a by omega)
  have H9 := Lib.hid h9
  have HSz := Lib.hid (near_sz HVo.out H1.out H9.out)
  have HVz : Hid (v.p.size ≤ 300) := by have := verOk_bounds HVo.out; show _ ≤ _; rw [Lib.size_eq]; omega
  have HXz : Hid (x.p.size ≤ 300) := by have := verOk_bounds HXo.out; show _ ≤ _; rw [Lib.size_eq]; omega
  have HLn : Hid ((near v).length ≤ 1000) := by show _ ≤ _; rw [near_two HVo.out H1.out H9.out]; simp
  obtain ⟨N, hN⟩ : ∃ N, near v = N := ⟨_, rfl⟩
  have HNv : Hid (meetsR v N = true) := by show _ = _; rw [← hN]; exact near_self HVo.out H1.out H9.out
  obtain ⟨r, hr⟩ : ∃ r, V4.cmp x v = r := ⟨_, rfl⟩
  have HR := Lib.hid hr
  have HNN := Lib.hid hN
  rw [hN] at HSz HLn
  clear h1 h9 hr hN
  by_cases hlow : r < 0
  · have ql : decide (r < 0) = true := decide_eq_true hlow
    have HM : Hid (meetsR x N = false) := by show _ = _; rw [← HNN.out]; exact near_low HVo.out H1.out H9.out (by rw [HR.out]; exact hlow)
    clear hlow
    go_enter Tryd.func4, Tryd.ntmps4
    go_wp2_with fail
    refine (checkQ_as v 0 HV.out _ ((HE.out.alloc _).alloc _) hp).mono ?_
    rintro e w1 ⟨rfl, hb1⟩
    obtain ⟨c0, d0⟩ := two_cells hb1 0
    obtain ⟨c1, d1⟩ := two_cells hb1 1
    obtain ⟨c2, d2⟩ := two_cells hb1 2
    obtain ⟨c3, d3⟩ := two_cells hb1 3
    have hW := two_below hb1
    have hB := cell_lt c0
    have hB2 := cell_lt d0
    simp at c0 c1 c2 c3 d0 d1 d2 d3
    clear hb1
    go_wp2_with fail
    refine (checkQ_as x 0 HX.out _ (HE.out.below hW) hp').mono ?_
    rintro e w2 ⟨rfl, hb2⟩
    have c0 := (hb2.cell (p := ⟨w.heap.size, 0, none⟩) hB).trans c0
    have d0 := (hb2.cell (p := ⟨w.heap.size + 1, 0, none⟩) hB2).trans d0
    have c1 := (hb2.cell (p := ⟨w.heap.size, 1, none⟩) hB).trans c1
    have d1 := (hb2.cell (p := ⟨w.heap.size + 1, 1, none⟩) hB2).trans d1
    have c2 := (hb2.cell (p := ⟨w.heap.size, 2, none⟩) hB).trans c2
    have d2 := (hb2.cell (p := ⟨w.heap.size + 1, 2, none⟩) hB2).trans d2
    have c3 := (hb2.cell (p := ⟨w.heap.size, 3, none⟩) hB).trans c3
    have d3 := (hb2.cell (p := ⟨w.heap.size + 1, 3, none⟩) hB2).trans d3
    have hB := cell_lt c0
    have hB2 := cell_lt d0
    have hW := below_then hW hb2
    clear hb2
    go_wp2_with fail
    refine (near_any v _ (HE.out.below hW) hp).mono ?_
    rintro e w3 ⟨y, rfl, hy, ⟨ya, ycap, rfl⟩, hb3⟩
    rw [HNN.out] at hy ⊢
    have HY := Lib.hid hy
    clear hy
    have c0 := (hb3.cell (p := ⟨w.heap.size, 0, none⟩) hB).trans c0
    have d0 := (hb3.cell (p := ⟨w.heap.size + 1, 0, none⟩) hB2).trans d0
    have c1 := (hb3.cell (p := ⟨w.heap.size, 1, none⟩) hB).trans c1
    have d1 := (hb3.cell (p := ⟨w.heap.size + 1, 1, none⟩) hB2).trans d1
    have c2 := (hb3.cell (p := ⟨w.heap.size, 2, none⟩) hB).trans c2
    have d2 := (hb3.cell (p := ⟨w.heap.size + 1, 2, none⟩) hB2).trans d2
    have c3 := (hb3.cell (p := ⟨w.heap.size, 3, none⟩) hB).trans c3
    have d3 := (hb3.cell (p := ⟨w.heap.size + 1, 3, none⟩) hB2).trans d3
    have hB := cell_lt c0
    have hB2 := cell_lt d0
    have hW := below_then hW hb3
    clear hb3
    go_wp2_with fail
    refine (cmpQ_as x v r HR.out _ (HE.out.below hW) HXz.out HVz.out).mono ?_
    rintro e w4 ⟨rfl, hb4⟩
    have HY := Lib.hid (HY.out.below hb4 (Nat.le_refl _))
    have c0 := (hb4.cell (p := ⟨w.heap.size, 0, none⟩) hB).trans c0
    have d0 := (hb4.cell (p := ⟨w.heap.size + 1, 0, none⟩) hB2).trans d0
    have c1 := (hb4.cell (p := ⟨w.heap.size, 1, none⟩) hB).trans c1
    have d1 := (hb4.cell (p := ⟨w.heap.size + 1, 1, none⟩) hB2).trans d1
    have c2 := (hb4.cell (p := ⟨w.heap.size, 2, none⟩) hB).trans c2
    have d2 := (hb4.cell (p := ⟨w.heap.size + 1, 2, none⟩) hB2).trans d2
    have c3 := (hb4.cell (p := ⟨w.heap.size, 3, none⟩) hB).trans c3
    have d3 := (hb4.cell (p := ⟨w.heap.size + 1, 3, none⟩) hB2).trans d3
    have hB := cell_lt c0
    have hB2 := cell_lt d0
    have hW := below_then hW hb4
    clear hb4
    go_wp2_with fail
    refine (meets_as x _ N false HM.out _ HY.out ⟨ya, ycap, rfl⟩ (HE.out.below hW) HXz.out HSz.out HLn.out).mono ?_
    rintro e w5 ⟨rfl, hb5⟩
    have HY := Lib.hid (HY.out.below hb5 (Nat.le_refl _))
    have c0 := (hb5.cell (p := ⟨w.heap.size, 0, none⟩) hB).trans c0
    have d0 := (hb5.cell (p := ⟨w.heap.size + 1, 0, none⟩) hB2).trans d0
    have c1 := (hb5.cell (p := ⟨w.heap.size, 1, none⟩) hB).trans c1
    have d1 := (hb5.cell (p := ⟨w.heap.size + 1, 1, none⟩) hB2).trans d1
    have c2 := (hb5.cell (p := ⟨w.heap.size, 2, none⟩) hB).trans c2
    have d2 := (hb5.cell (p := ⟨w.heap.size + 1, 2, none⟩) hB2).trans d2
    have c3 := (hb5.cell (p := ⟨w.heap.size, 3, none⟩) hB).trans c3
    have d3 := (hb5.cell (p := ⟨w.heap.size + 1, 3, none⟩) hB2).trans d3
    have hB := cell_lt c0
    have hB2 := cell_lt d0
    have hW := below_then hW hb5
    clear hb5
    go_wp2_with fail
    refine (awake_any _ (HE.out.below hW)).mono ?_
    rintro e w9 ⟨rfl, hb9⟩
    go_wp2_with fail
    go_ret
    exact ⟨rfl, below_then hW hb9⟩
  have ql : decide (r < 0) = false := decide_eq_false hlow
  by_cases hgt : v.a < x.a
  · have qg : decide (v.a < x.a) = true := decide_eq_true hgt
    by_cases hpe : x.p.toList.isEmpty = true
    · have HM : Hid (meetsR x N = false) := by
        show _ = _; rw [← HNN.out]
        refine near_high HVo.out HXo.out H1.out H9.out hgt ?_
        rw [Lib.toList_data, List.isEmpty_iff] at hpe; exact hpe
      clear hlow hgt
      go_enter Tryd.func4, Tryd.ntmps4
      go_wp2_with fail
      refine (checkQ_as v 0 HV.out _ ((HE.out.alloc _).alloc _) hp).mono ?_
      rintro e w1 ⟨rfl, hb1⟩
      obtain ⟨c0, d0⟩ := two_cells hb1 0
      obtain ⟨c1, d1⟩ := two_cells hb1 1
      obtain ⟨c2, d2⟩ := two_cells hb1 2
      obtain ⟨c3, d3⟩ := two_cells hb1 3
      have hW := two_below hb1
      have hB := cell_lt c0
      have hB2 := cell_lt d0
      simp at c0 c1 c2 c3 d0 d1 d2 d3
      clear hb1
      go_wp2_with fail
      refine (checkQ_as x 0 HX.out _ (HE.out.below hW) hp').mono ?_
      rintro e w2 ⟨rfl, hb2⟩
      have c0 := (hb2.cell (p := ⟨w.heap.size, 0, none⟩) hB).trans c0
      have d0 := (hb2.cell (p := ⟨w.heap.size + 1, 0, none⟩) hB2).trans d0
      have c1 := (hb2.cell (p := ⟨w.heap.size, 1, none⟩) hB).trans c1
      have d1 := (hb2.cell (p := ⟨w.heap.size + 1, 1, none⟩) hB2).trans d1
      have c2 := (hb2.cell (p := ⟨w.heap.size, 2, none⟩) hB).trans c2
      have d2 := (hb2.cell (p := ⟨w.heap.size + 1, 2, none⟩) hB2).trans d2
      have c3 := (hb2.cell (p := ⟨w.heap.size, 3, none⟩) hB).trans c3
      have d3 := (hb2.cell (p := ⟨w.heap.size + 1, 3, none⟩) hB2).trans d3
      have hB := cell_lt c0
      have hB2 := cell_lt d0
      have hW := below_then hW hb2
      clear hb2
      go_wp2_with fail
      refine (near_any v _ (HE.out.below hW) hp).mono ?_
      rintro e w3 ⟨y, rfl, hy, ⟨ya, ycap, rfl⟩, hb3⟩
      rw [HNN.out] at hy ⊢
      have HY := Lib.hid hy
      clear hy
      have c0 := (hb3.cell (p := ⟨w.heap.size, 0, none⟩) hB).trans c0
      have d0 := (hb3.cell (p := ⟨w.heap.size + 1, 0, none⟩) hB2).trans d0
      have c1 := (hb3.cell (p := ⟨w.heap.size, 1, none⟩) hB).trans c1
      have d1 := (hb3.cell (p := ⟨w.heap.size + 1, 1, none⟩) hB2).trans d1
      have c2 := (hb3.cell (p := ⟨w.heap.size, 2, none⟩) hB).trans c2
      have d2 := (hb3.cell (p := ⟨w.heap.size + 1, 2, none⟩) hB2).trans d2
      have c3 := (hb3.cell (p := ⟨w.heap.size, 3, none⟩) hB).trans c3
      have d3 := (hb3.cell (p := ⟨w.heap.size + 1, 3, none⟩) hB2).trans d3
      have hB := cell_lt c0
      have hB2 := cell_lt d0
      have hW := below_then hW hb3
      clear hb3
      go_wp2_with fail
      refine (cmpQ_as x v r HR.out _ (HE.out.below hW) HXz.out HVz.out).mono ?_
      rintro e w4 ⟨rfl, hb4⟩
      have HY := Lib.hid (HY.out.below hb4 (Nat.le_refl _))
      have c0 := (hb4.cell (p := ⟨w.heap.size, 0, none⟩) hB).trans c0
      have d0 := (hb4.cell (p := ⟨w.heap.size + 1, 0, none⟩) hB2).trans d0
      have c1 := (hb4.cell (p := ⟨w.heap.size, 1, none⟩) hB).trans c1
      have d1 := (hb4.cell (p := ⟨w.heap.size + 1, 1, none⟩) hB2).trans d1
      have c2 := (hb4.cell (p := ⟨w.heap.size, 2, none⟩) hB).trans c2
      have d2 := (hb4.cell (p := ⟨w.heap.size + 1, 2, none⟩) hB2).trans d2
      have c3 := (hb4.cell (p := ⟨w.heap.size, 3, none⟩) hB).trans c3
      have d3 := (hb4.cell (p := ⟨w.heap.size + 1, 3, none⟩) hB2).trans d3
      have hB := cell_lt c0
      have hB2 := cell_lt d0
      have hW := below_then hW hb4
      clear hb4
      go_wp2_with fail
      refine (meets_as x _ N false HM.out _ HY.out ⟨ya, ycap, rfl⟩ (HE.out.below hW) HXz.out HSz.out HLn.out).mono ?_
      rintro e w5 ⟨rfl, hb5⟩
      have HY := Lib.hid (HY.out.below hb5 (Nat.le_refl _))
      have c0 := (hb5.cell (p := ⟨w.heap.size, 0, none⟩) hB).trans c0
      have d0 := (hb5.cell (p := ⟨w.heap.size + 1, 0, none⟩) hB2).trans d0
      have c1 := (hb5.cell (p := ⟨w.heap.size, 1, none⟩) hB).trans c1
      have d1 := (hb5.cell (p := ⟨w.heap.size + 1, 1, none⟩) hB2).trans d1
      have c2 := (hb5.cell (p := ⟨w.heap.size, 2, none⟩) hB).trans c2
      have d2 := (hb5.cell (p := ⟨w.heap.size + 1, 2, none⟩) hB2).trans d2
      have c3 := (hb5.cell (p := ⟨w.heap.size, 3, none⟩) hB).trans c3
      have d3 := (hb5.cell (p := ⟨w.heap.size + 1, 3, none⟩) hB2).trans d3
      have hB := cell_lt c0
      have hB2 := cell_lt d0
      have hW := below_then hW hb5
      clear hb5
      go_wp2_with fail
      refine (awake_any _ (HE.out.below hW)).mono ?_
      rintro e w9 ⟨rfl, hb9⟩
      go_wp2_with fail
      go_ret
      exact ⟨rfl, below_then hW hb9⟩
    · have hpe' : x.p.toList.isEmpty = false := by simpa using hpe
      have qn : (x.a != v.a) = true := by simp; omega
      have qn' : decide (x.a = v.a) = false := decide_eq_false (by omega)
      clear hlow hgt hpe
      go_enter Tryd.func4, Tryd.ntmps4
      go_wp2_with fail
      refine (checkQ_as v 0 HV.out _ ((HE.out.alloc _).alloc _) hp).mono ?_
      rintro e w1 ⟨rfl, hb1⟩
      obtain ⟨c0, d0⟩ := two_cells hb1 0
      obtain ⟨c1, d1⟩ := two_cells hb1 1
      obtain ⟨c2, d2⟩ := two_cells hb1 2
      obtain ⟨c3, d3⟩ := two_cells hb1 3
      have hW := two_below hb1
      have hB := cell_lt c0
      have hB2 := cell_lt d0
      simp at c0 c1 c2 c3 d0 d1 d2 d3
      clear hb1
      go_wp2_with fail
      refine (checkQ_as x 0 HX.out _ (HE.out.below hW) hp').mono ?_
      rintro e w2 ⟨rfl, hb2⟩
      have c0 := (hb2.cell (p := ⟨w.heap.size, 0, none⟩) hB).trans c0
      have d0 := (hb2.cell (p := ⟨w.heap.size + 1, 0, none⟩) hB2).trans d0
      have c1 := (hb2.cell (p := ⟨w.heap.size, 1, none⟩) hB).trans c1
      have d1 := (hb2.cell (p := ⟨w.heap.size + 1, 1, none⟩) hB2).trans d1
      have c2 := (hb2.cell (p := ⟨w.heap.size, 2, none⟩) hB).trans c2
      have d2 := (hb2.cell (p := ⟨w.heap.size + 1, 2, none⟩) hB2).trans d2
      have c3 := (hb2.cell (p := ⟨w.heap.size, 3, none⟩) hB).trans c3
      have d3 := (hb2.cell (p := ⟨w.heap.size + 1, 3, none⟩) hB2).trans d3
      have hB := cell_lt c0
      have hB2 := cell_lt d0
      have hW := below_then hW hb2
      clear hb2
      go_wp2_with fail
      refine (near_any v _ (HE.out.below hW) hp).mono ?_
      rintro e w3 ⟨y, rfl, hy, ⟨ya, ycap, rfl⟩, hb3⟩
      rw [HNN.out] at hy ⊢
      have HY := Lib.hid hy
      clear hy
      have c0 := (hb3.cell (p := ⟨w.heap.size, 0, none⟩) hB).trans c0
      have d0 := (hb3.cell (p := ⟨w.heap.size + 1, 0, none⟩) hB2).trans d0
      have c1 := (hb3.cell (p := ⟨w.heap.size, 1, none⟩) hB).trans c1
      have d1 := (hb3.cell (p := ⟨w.heap.size + 1, 1, none⟩) hB2).trans d1
      have c2 := (hb3.cell (p := ⟨w.heap.size, 2, none⟩) hB).trans c2
      have d2 := (hb3.cell (p := ⟨w.heap.size + 1, 2, none⟩) hB2).trans d2
      have c3 := (hb3.cell (p := ⟨w.heap.size, 3, none⟩) hB).trans c3
      have d3 := (hb3.cell (p := ⟨w.heap.size + 1, 3, none⟩) hB2).trans d3
      have hB := cell_lt c0
      have hB2 := cell_lt d0
      have hW := below_then hW hb3
      clear hb3
      go_wp2_with fail
      refine (cmpQ_as x v r HR.out _ (HE.out.below hW) HXz.out HVz.out).mono ?_
      rintro e w4 ⟨rfl, hb4⟩
      have HY := Lib.hid (HY.out.below hb4 (Nat.le_refl _))
      have c0 := (hb4.cell (p := ⟨w.heap.size, 0, none⟩) hB).trans c0
      have d0 := (hb4.cell (p := ⟨w.heap.size + 1, 0, none⟩) hB2).trans d0
      have c1 := (hb4.cell (p := ⟨w.heap.size, 1, none⟩) hB).trans c1
      have d1 := (hb4.cell (p := ⟨w.heap.size + 1, 1, none⟩) hB2).trans d1
      have c2 := (hb4.cell (p := ⟨w.heap.size, 2, none⟩) hB).trans c2
      have d2 := (hb4.cell (p := ⟨w.heap.size + 1, 2, none⟩) hB2).trans d2
      have c3 := (hb4.cell (p := ⟨w.heap.size, 3, none⟩) hB).trans c3
      have d3 := (hb4.cell (p := ⟨w.heap.size + 1, 3, none⟩) hB2).trans d3
      have hB := cell_lt c0
      have hB2 := cell_lt d0
      have hW := below_then hW hb4
      clear hb4
      go_wp2_with fail
      refine (meets_as v _ N true HNv.out _ HY.out ⟨ya, ycap, rfl⟩ (HE.out.below hW) HVz.out HSz.out HLn.out).mono ?_
      rintro e w5 ⟨rfl, hb5⟩
      have HY := Lib.hid (HY.out.below hb5 (Nat.le_refl _))
      have c0 := (hb5.cell (p := ⟨w.heap.size, 0, none⟩) hB).trans c0
      have d0 := (hb5.cell (p := ⟨w.heap.size + 1, 0, none⟩) hB2).trans d0
      have c1 := (hb5.cell (p := ⟨w.heap.size, 1, none⟩) hB).trans c1
      have d1 := (hb5.cell (p := ⟨w.heap.size + 1, 1, none⟩) hB2).trans d1
      have c2 := (hb5.cell (p := ⟨w.heap.size, 2, none⟩) hB).trans c2
      have d2 := (hb5.cell (p := ⟨w.heap.size + 1, 2, none⟩) hB2).trans d2
      have c3 := (hb5.cell (p := ⟨w.heap.size, 3, none⟩) hB).trans c3
      have d3 := (hb5.cell (p := ⟨w.heap.size + 1, 3, none⟩) hB2).trans d3
      have hB := cell_lt c0
      have hB2 := cell_lt d0
      have hW := below_then hW hb5
      clear hb5
      go_wp2_with fail
      refine (awake_any _ (HE.out.below hW)).mono ?_
      rintro e w9 ⟨rfl, hb9⟩
      go_wp2_with fail
      go_ret
      exact ⟨rfl, below_then hW hb9⟩
  · have qg : decide (v.a < x.a) = false := decide_eq_false hgt
    have hxv : x.a = v.a := by
      by_cases h : x.a < v.a
      · exact absurd (HR.out ▸ cmp_less h) hlow
      · omega
    have HM : Hid (meetsR x N = true) := by show _ = _; rw [← HNN.out]; exact near_line HVo.out H1.out H9.out hxv (by rw [HR.out]; exact hlow)
    have qn : (x.a != v.a) = false := by simpa using hxv
    have qn' : decide (x.a = v.a) = true := decide_eq_true hxv
    clear hlow hgt hxv
    go_enter Tryd.func4, Tryd.ntmps4
    go_wp2_with fail
    refine (checkQ_as v 0 HV.out _ ((HE.out.alloc _).alloc _) hp).mono ?_
    rintro e w1 ⟨rfl, hb1⟩
    obtain ⟨c0, d0⟩ := two_cells hb1 0
    obtain ⟨c1, d1⟩ := two_cells hb1 1
    obtain ⟨c2, d2⟩ := two_cells hb1 2
    obtain ⟨c3, d3⟩ := two_cells hb1 3
    have hW := two_below hb1
    have hB := cell_lt c0
    have hB2 := cell_lt d0
    simp at c0 c1 c2 c3 d0 d1 d2 d3
    clear hb1
    go_wp2_with fail
    refine (checkQ_as x 0 HX.out _ (HE.out.below hW) hp').mono ?_
    rintro e w2 ⟨rfl, hb2⟩
    have c0 := (hb2.cell (p := ⟨w.heap.size, 0, none⟩) hB).trans c0
    have d0 := (hb2.cell (p := ⟨w.heap.size + 1, 0, none⟩) hB2).trans d0
    have c1 := (hb2.cell (p := ⟨w.heap.size, 1, none⟩) hB).trans c1
    have d1 := (hb2.cell (p := ⟨w.heap.size + 1, 1, none⟩) hB2).trans d1
    have c2 := (hb2.cell (p := ⟨w.heap.size, 2, none⟩) hB).trans c2
    have d2 := (hb2.cell (p := ⟨w.heap.size + 1, 2, none⟩) hB2).trans d2
    have c3 := (hb2.cell (p := ⟨w.heap.size, 3, none⟩) hB).trans c3
    have d3 := (hb2.cell (p := ⟨w.heap.size + 1, 3, none⟩) hB2).trans d3
    have hB := cell_lt c0
    have hB2 := cell_lt d0
    have hW := below_then hW hb2
    clear hb2
    go_wp2_with fail
    refine (near_any v _ (HE.out.below hW) hp).mono ?_
    rintro e w3 ⟨y, rfl, hy, ⟨ya, ycap, rfl⟩, hb3⟩
    rw [HNN.out] at hy ⊢
    have HY := Lib.hid hy
    clear hy
    have c0 := (hb3.cell (p := ⟨w.heap.size, 0, none⟩) hB).trans c0
    have d0 := (hb3.cell (p := ⟨w.heap.size + 1, 0, none⟩) hB2).trans d0
    have c1 := (hb3.cell (p := ⟨w.heap.size, 1, none⟩) hB).trans c1
    have d1 := (hb3.cell (p := ⟨w.heap.size + 1, 1, none⟩) hB2).trans d1
    have c2 := (hb3.cell (p := ⟨w.heap.size, 2, none⟩) hB).trans c2
    have d2 := (hb3.cell (p := ⟨w.heap.size + 1, 2, none⟩) hB2).trans d2
    have c3 := (hb3.cell (p := ⟨w.heap.size, 3, none⟩) hB).trans c3
    have d3 := (hb3.cell (p := ⟨w.heap.size + 1, 3, none⟩) hB2).trans d3
    have hB := cell_lt c0
    have hB2 := cell_lt d0
    have hW := below_then hW hb3
    clear hb3
    go_wp2_with fail
    refine (cmpQ_as x v r HR.out _ (HE.out.below hW) HXz.out HVz.out).mono ?_
    rintro e w4 ⟨rfl, hb4⟩
    have HY := Lib.hid (HY.out.below hb4 (Nat.le_refl _))
    have c0 := (hb4.cell (p := ⟨w.heap.size, 0, none⟩) hB).trans c0
    have d0 := (hb4.cell (p := ⟨w.heap.size + 1, 0, none⟩) hB2).trans d0
    have c1 := (hb4.cell (p := ⟨w.heap.size, 1, none⟩) hB).trans c1
    have d1 := (hb4.cell (p := ⟨w.heap.size + 1, 1, none⟩) hB2).trans d1
    have c2 := (hb4.cell (p := ⟨w.heap.size, 2, none⟩) hB).trans c2
    have d2 := (hb4.cell (p := ⟨w.heap.size + 1, 2, none⟩) hB2).trans d2
    have c3 := (hb4.cell (p := ⟨w.heap.size, 3, none⟩) hB).trans c3
    have d3 := (hb4.cell (p := ⟨w.heap.size + 1, 3, none⟩) hB2).trans d3
    have hB := cell_lt c0
    have hB2 := cell_lt d0
    have hW := below_then hW hb4
    clear hb4
    go_wp2_with fail
    refine (meets_as x _ N true HM.out _ HY.out ⟨ya, ycap, rfl⟩ (HE.out.below hW) HXz.out HSz.out HLn.out).mono ?_
    rintro e w5 ⟨rfl, hb5⟩
    have HY := Lib.hid (HY.out.below hb5 (Nat.le_refl _))
    have c0 := (hb5.cell (p := ⟨w.heap.size, 0, none⟩) hB).trans c0
    have d0 := (hb5.cell (p := ⟨w.heap.size + 1, 0, none⟩) hB2).trans d0
    have c1 := (hb5.cell (p := ⟨w.heap.size, 1, none⟩) hB).trans c1
    have d1 := (hb5.cell (p := ⟨w.heap.size + 1, 1, none⟩) hB2).trans d1
    have c2 := (hb5.cell (p := ⟨w.heap.size, 2, none⟩) hB).trans c2
    have d2 := (hb5.cell (p := ⟨w.heap.size + 1, 2, none⟩) hB2).trans d2
    have c3 := (hb5.cell (p := ⟨w.heap.size, 3, none⟩) hB).trans c3
    have d3 := (hb5.cell (p := ⟨w.heap.size + 1, 3, none⟩) hB2).trans d3
    have hB := cell_lt c0
    have hB2 := cell_lt d0
    have hW := below_then hW hb5
    clear hb5
    go_wp2_with fail
    refine (meets_as v _ N true HNv.out _ HY.out ⟨ya, ycap, rfl⟩ (HE.out.below hW) HVz.out HSz.out HLn.out).mono ?_
    rintro e w6 ⟨rfl, hb5⟩
    have HY := Lib.hid (HY.out.below hb5 (Nat.le_refl _))
    have c0 := (hb5.cell (p := ⟨w.heap.size, 0, none⟩) hB).trans c0
    have d0 := (hb5.cell (p := ⟨w.heap.size + 1, 0, none⟩) hB2).trans d0
    have c1 := (hb5.cell (p := ⟨w.heap.size, 1, none⟩) hB).trans c1
    have d1 := (hb5.cell (p := ⟨w.heap.size + 1, 1, none⟩) hB2).trans d1
    have c2 := (hb5.cell (p := ⟨w.heap.size, 2, none⟩) hB).trans c2
    have d2 := (hb5.cell (p := ⟨w.heap.size + 1, 2, none⟩) hB2).trans d2
    have c3 := (hb5.cell (p := ⟨w.heap.size, 3, none⟩) hB).trans c3
    have d3 := (hb5.cell (p := ⟨w.heap.size + 1, 3, none⟩) hB2).trans d3
    have hB := cell_lt c0
    have hB2 := cell_lt d0
    have hW := below_then hW hb5
    clear hb5
    go_wp2_with fail
    refine (awake_any _ (HE.out.below hW)).mono ?_
    rintro e w9 ⟨rfl, hb9⟩
    go_wp2_with fail
    go_ret
    exact ⟨rfl, below_then hW hb9⟩
end Go.Proofs.YthojbknakmjndaaDoor
