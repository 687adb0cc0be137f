/- The program's ranges: what gathers the ends: walks. -/
import Derived.Test.YthojbknakmjndaaGreatDoorRanProg3
import Derived.Test.YthojbknakmjndaaGreatDoorRanMath4
import Derived.Test.YthojbknakmjndaaGreatDoorRanLight
import Derived.Deep.LoopGhost
namespace Go
open Go.RowKit
/-- the ends, in their block -/
def EndsAt (w : World) (b : Nat) (x : TwoEnds) : Prop :=
  (w.cell? ⟨b, 0, none⟩ = some (.int .i64 x.lo.op) ∧ w.cell? ⟨b, 1, none⟩ = some (.int .i64 x.lo.v.a) ∧ w.cell? ⟨b, 2, none⟩ = some (.int .i64 x.lo.v.b) ∧ w.cell? ⟨b, 3, none⟩ = some (.int .i64 x.lo.v.c) ∧ w.cell? ⟨b, 4, none⟩ = some (.string x.lo.v.p) ∧ w.cell? ⟨b, 5, none⟩ = some (.int .i64 x.hi.op) ∧ w.cell? ⟨b, 6, none⟩ = some (.int .i64 x.hi.v.a) ∧ w.cell? ⟨b, 7, none⟩ = some (.int .i64 x.hi.v.b) ∧ w.cell? ⟨b, 8, none⟩ = some (.int .i64 x.hi.v.c) ∧ w.cell? ⟨b, 9, none⟩ = some (.string x.hi.v.p)) ∧
  (w.frozen? ⟨b, 0, none⟩ = false ∧ w.frozen? ⟨b, 1, none⟩ = false ∧ w.frozen? ⟨b, 2, none⟩ = false ∧ w.frozen? ⟨b, 3, none⟩ = false ∧ w.frozen? ⟨b, 4, none⟩ = false ∧ w.frozen? ⟨b, 5, none⟩ = false ∧ w.frozen? ⟨b, 6, none⟩ = false ∧ w.frozen? ⟨b, 7, none⟩ = false ∧ w.frozen? ⟨b, 8, none⟩ = false ∧ w.frozen? ⟨b, 9, none⟩ = false)
def BoxAt (w : World) (b : Nat) (z : Bnd) : Prop := w.cell? ⟨b, 0, none⟩ = some (.int .i64 z.op) ∧ w.cell? ⟨b, 1, none⟩ = some (.int .i64 z.v.a) ∧ w.cell? ⟨b, 2, none⟩ = some (.int .i64 z.v.b) ∧ w.cell? ⟨b, 3, none⟩ = some (.int .i64 z.v.c) ∧ w.cell? ⟨b, 4, none⟩ = some (.string z.v.p)
theorem EndsAt.below {w w' : World} {b : Nat} {x : TwoEnds} (h : EndsAt w b x) {B : Nat} (hb : Below B w w') (hB : b < B) : EndsAt w' b x := by
  unfold EndsAt at h ⊢
  have hc : ∀ j, w'.cell? ⟨b, j, none⟩ = w.cell? ⟨b, j, none⟩ := fun j => hb.cell (p := ⟨b, j, none⟩) hB
  have hf : ∀ j, w'.frozen? ⟨b, j, none⟩ = w.frozen? ⟨b, j, none⟩ := fun j => hb.frozen (p := ⟨b, j, none⟩) hB
  simp only [hc, hf]
  exact h
theorem BoxAt.below {w w' : World} {b : Nat} {x : Bnd} (h : BoxAt w b x) {B : Nat} (hb : Below B w w') (hB : b < B) : BoxAt w' b x := by
  unfold BoxAt at h ⊢
  have hc : ∀ j, w'.cell? ⟨b, j, none⟩ = w.cell? ⟨b, j, none⟩ := fun j => hb.cell (p := ⟨b, j, none⟩) hB
  simp only [hc]
  exact h
theorem EndsAt.lt {w : World} {b : Nat} {x : TwoEnds} (h : EndsAt w b x) : b < w.heap.size := cell_lt h.1.1
theorem EndsAt.set_lo {w : World} {b : Nat} {x : TwoEnds} (h : EndsAt w b x) (z : Bnd) : EndsAt (((((w.setCell ⟨b, 0, none⟩ (.int .i64 z.op)).setCell ⟨b, 1, none⟩ (.int .i64 z.v.a)).setCell ⟨b, 2, none⟩ (.int .i64 z.v.b)).setCell ⟨b, 3, none⟩ (.int .i64 z.v.c)).setCell ⟨b, 4, none⟩ (.string z.v.p)) b ⟨z, x.hi⟩ := by
  obtain ⟨⟨h0, h1, h2, h3, h4, h5, h6, h7, h8, h9⟩, f0, f1, f2, f3, f4, f5, f6, f7, f8, f9⟩ := h
  refine ⟨⟨?_, ?_, ?_, ?_, ?_, ?_, ?_, ?_, ?_, ?_⟩, ?_, ?_, ?_, ?_, ?_, ?_, ?_, ?_, ?_, ?_⟩
  all_goals go_simp
theorem EndsAt.set_hi {w : World} {b : Nat} {x : TwoEnds} (h : EndsAt w b x) (z : Bnd) : EndsAt (((((w.setCell ⟨b, 5, none⟩ (.int .i64 z.op)).setCell ⟨b, 6, none⟩ (.int .i64 z.v.a)).setCell ⟨b, 7, none⟩ (.int .i64 z.v.b)).setCell ⟨b, 8, none⟩ (.int .i64 z.v.c)).setCell ⟨b, 9, none⟩ (.string z.v.p)) b ⟨x.lo, z⟩ := by
  obtain ⟨⟨h0, h1, h2, h3, h4, h5, h6, h7, h8, h9⟩, f0, f1, f2, f3, f4, f5, f6, f7, f8, f9⟩ := h
  refine ⟨⟨?_, ?_, ?_, ?_, ?_, ?_, ?_, ?_, ?_, ?_⟩, ?_, ?_, ?_, ?_, ?_, ?_, ?_, ?_, ?_, ?_⟩
  all_goals go_simp
theorem BoxAt.far {w : World} {b c : Nat} {x : Bnd} (h : BoxAt w b x) (hc : c ≠ b) (o : Nat) (v : Value) : BoxAt (w.setCell ⟨c, o, none⟩ v) b x := by
  unfold BoxAt at h ⊢
  have hj : ∀ j, (w.setCell ⟨c, o, none⟩ v).cell? ⟨b, j, none⟩ = w.cell? ⟨b, j, none⟩ := fun j => World.cell?_setCell_far w ⟨c, o, none⟩ ⟨b, j, none⟩ v hc
  simp only [hj]
  exact h
theorem EndsAt.far {w : World} {b c : Nat} {x : TwoEnds} (h : EndsAt w b x) (hc : c ≠ b) (o : Nat) (v : Value) : EndsAt (w.setCell ⟨c, o, none⟩ v) b x := by
  unfold EndsAt at h ⊢
  have hj : ∀ j, (w.setCell ⟨c, o, none⟩ v).cell? ⟨b, j, none⟩ = w.cell? ⟨b, j, none⟩ := fun j => World.cell?_setCell_far w ⟨c, o, none⟩ ⟨b, j, none⟩ v hc
  have hf : ∀ j, (w.setCell ⟨c, o, none⟩ v).frozen? ⟨b, j, none⟩ = w.frozen? ⟨b, j, none⟩ := fun j => by go_simp
  simp only [hj, hf]
  exact h
theorem five {α : Type} [DecidableEq α] {o : Int} (h1 : 1 ≤ o) (h2 : o ≤ 5) : o = 1 ∨ o = 2 ∨ o = 3 ∨ o = 4 ∨ o = 5 := by omega
end Go
namespace Go.Proofs.YthojbknakmjndaaGreatDoor
open Go.RowKit
set_option maxRecDepth 100000 in
theorem nothing_any (w : World) :
    Calls Tryz.prog 40 #[] w fun e w' => e = .returned (.agg #[.int .i64 1, .int .i64 0, .int .i64 0, .int .i64 0, .string ⟨#[48]⟩]) ∧ Below w.heap.size w w' := by
  go_enter Tryz.func40, Tryz.ntmps40
  go_wp2_with fail
  refine bodyPost_ret (v := .agg #[.int .i64 1, .int .i64 0, .int .i64 0, .int .i64 0, .string ⟨#[48]⟩]) (by simp [results, Tryz.results40, go_sem]) rfl ⟨rfl, ?_⟩
  exact (Below.refl _ _).alloc (Nat.le_refl _) _
theorem max_four (o : Int) : o ≤ 4 → maxOp o = 4 := fun h => by unfold maxOp; rw [if_pos h]
theorem lo_yes {e b : Bnd} (h : 3 ≤ b.op) (hc : e.op = 0 ∨ 0 < V4.cmp b.v e.v ∨ (V4.cmp b.v e.v = 0 ∧ maxOp b.op = 5 ∧ e.op = 4)) : stepLo e b = ⟨maxOp b.op, b.v⟩ := by unfold stepLo; rw [if_pos h, if_pos hc]
theorem lo_no {e b : Bnd} (hc : ¬ (3 ≤ b.op ∧ (e.op = 0 ∨ 0 < V4.cmp b.v e.v ∨ (V4.cmp b.v e.v = 0 ∧ maxOp b.op = 5 ∧ e.op = 4)))) : stepLo e b = e := by
  unfold stepLo
  split
  · rw [if_neg (fun h => hc ⟨by assumption, h⟩)]
  · rfl
theorem hi_yes {e b : Bnd} (h : b.op ≤ 3) (hc : e.op = 0 ∨ V4.cmp b.v e.v < 0 ∨ (V4.cmp b.v e.v = 0 ∧ minOp b.op = 1 ∧ e.op = 2)) : stepHi e b = ⟨minOp b.op, b.v⟩ := by unfold stepHi; rw [if_pos h, if_pos hc]
theorem hi_no {e b : Bnd} (hc : ¬ (b.op ≤ 3 ∧ (e.op = 0 ∨ V4.cmp b.v e.v < 0 ∨ (V4.cmp b.v e.v = 0 ∧ minOp b.op = 1 ∧ e.op = 2)))) : stepHi e b = e := by
  unfold stepHi
  split
  · rw [if_neg (fun h => hc ⟨by assumption, h⟩)]
  · rfl
set_option maxRecDepth 100000 in
set_option maxHeartbeats 16000000 in
theorem add_any (w0 : World) (hE : Env w0) (b : Nat) (hb0 : w0.heap.size ≤ b) (x : TwoEnds) (y : Bnd) (w : World) (hw : Below b w0 w) (hx : EndsAt w b x)
    (hy3 : y.v.p.size ≤ 300) (hl3 : x.lo.v.p.size ≤ 300) (hh3 : x.hi.v.p.size ≤ 300) :
    Calls Tryz.prog 39 #[.pointer (some ⟨b, 0, none⟩), .agg #[.int .i64 y.op, .int .i64 y.v.a, .int .i64 y.v.b, .int .i64 y.v.c, .string y.v.p]] w fun e w' => e = .returned (.tuple #[]) ∧ EndsAt w' b (x.add y) ∧ Below b w0 w' := by
  have HE : Hid (∀ wx, Below b w0 wx → Env wx) := fun wx h => hE.of_below h hb0
  have hB := hx.lt
  have HX := Lib.hid hx
  obtain ⟨B, hBe⟩ : ∃ B, w.heap.size = B := ⟨_, rfl⟩
  obtain ⟨A, hA⟩ : ∃ A, S (signL y.op) = A := ⟨_, rfl⟩
  have HSA := Lib.hid hA
  obtain ⟨nb, hnb⟩ : ∃ nb, (!opOk y.op) = nb := ⟨_, rfl⟩
  have HNb : Hid (opOk y.op = !nb) := by show _ = _; rw [← hnb]; simp
  have hAe : A.toList.isEmpty = nb := by rw [← hA, S_toList, ← hnb]; exact sign_empty _
  obtain ⟨z, hz⟩ : ∃ z, y.fix = z := ⟨_, rfl⟩
  have HZ := Lib.hid hz
  have hzo := fix_bounds y
  rw [hz] at hzo
  have hz3 : z.v.p.size ≤ 300 := by
    rw [← hz]; unfold Bnd.fix; split
    · exact hy3
    · decide
  have hbB : b ≠ B := by omega
  have HBb : Hid (B ≠ b) := fun h => hbB h.symm
  have hle : b ≤ B := by omega
  have hW1 : Below b w0 (w.alloc (.cells #[.int .i64 y.op, .int .i64 y.v.a, .int .i64 y.v.b, .int .i64 y.v.c, .string y.v.p] 54)) := hw.alloc (by omega) _
  have HX1 := Lib.hid (HX.out.below ((Below.refl w.heap.size w).alloc (Nat.le_refl _) (.cells #[.int .i64 y.op, .int .i64 y.v.a, .int .i64 y.v.b, .int .i64 y.v.c, .string y.v.p] 54)) hB)
  clear hA hE hx hw hz hnb
  go_enter Tryz.func39, Tryz.ntmps39
  go_wp2_with fail
  refine (sign_as y.op A HSA.out _).mono ?_
  rintro e w1 ⟨rfl, rfl⟩
  go_upto_if 11 with fail
  go_cut [12] (fun _ wx => BoxAt wx B z ∧ EndsAt wx b x ∧ Below b w0 wx)
  case first =>
    cases nb
    · have HZ2 : Hid (z = y) := by show _ = _; rw [← HZ.out]; unfold Bnd.fix; rw [if_pos (show opOk y.op = true from HNb.out)]
      go_wp2_with fail
      go_meet
      case rel =>
        refine ⟨?_, HX1.out, hW1⟩
        rw [HZ2.out, ← hBe]
        refine ⟨?_, ?_, ?_, ?_, ?_⟩ <;> go_simp
    · have HZ2 : Hid (z = Bnd.nothing) := by show _ = _; rw [← HZ.out]; unfold Bnd.fix; rw [if_neg (by rw [HNb.out]; decide)]
      go_wp2_with fail
      refine (nothing_any _).mono ?_
      rintro e w2 ⟨rfl, hb2⟩
      have hx2 := box_of hb2
      have c0 := box_cells hx2 0
      have c1 := box_cells hx2 1
      have c2 := box_cells hx2 2
      have c3 := box_cells hx2 3
      have c4 := box_cells hx2 4
      have f0 := box_free hx2 0
      have f1 := box_free hx2 1
      have f2 := box_free hx2 2
      have f3 := box_free hx2 3
      have f4 := box_free hx2 4
      simp at c0 c1 c2 c3 c4
      rw [hBe] at c0 c1 c2 c3 c4 f0 f1 f2 f3 f4
      have hW2 := hW1.trans (hb2.mono (by simp; omega))
      have HX2 := Lib.hid (HX1.out.below hb2 (by simp; omega))
      clear hb2 hx2
      go_wp2_with fail
      go_meet
      case rel =>
        refine ⟨?_, ?_, ?_⟩
        · rw [HZ2.out]
          refine ⟨?_, ?_, ?_, ?_, ?_⟩ <;> (go_simp; try rfl)
        · exact ((((HX2.out.far HBb.out _ _).far HBb.out _ _).far HBb.out _ _).far HBb.out _ _).far HBb.out _ _
        · exact ((((hW2.setCell hle _).setCell hle _).setCell hle _).setCell hle _).setCell hle _
  case rest =>
    obtain ⟨hbx, hxe, hwc⟩ := hcut
    clear HX HX1 hW1 HSA hAe HNb hBe hB
    obtain ⟨⟨lo, lv⟩, ⟨ho, hv⟩⟩ := x
    obtain ⟨zo, zv⟩ := z
    simp only at hzo hz3 hl3 hh3
    obtain ⟨hz1, hz5⟩ := hzo
    have hcase : zo = 1 ∨ zo = 2 ∨ zo = 3 ∨ zo = 4 ∨ zo = 5 := by omega
    obtain ⟨L, hL⟩ : ∃ L, stepLo ⟨lo, lv⟩ ⟨zo, zv⟩ = L := ⟨_, rfl⟩
    have HL := Lib.hid hL
    clear hL hz1 hz5 hy3
    rcases hcase with rfl | rfl | rfl | rfl | rfl
    · skip
      have HBX := Lib.hid hbx
      have HXE := Lib.hid hxe
      obtain ⟨z0, z1, z2, z3, z4⟩ := hbx
      obtain ⟨⟨e0, e1, e2, e3, e4, e5, e6, e7, e8, e9⟩, g0, g1, g2, g3, g4, g5, g6, g7, g8, g9⟩ := hxe
      simp only at z0 z1 z2 z3 z4 e0 e1 e2 e3 e4 e5 e6 e7 e8 e9
      have hbl := cell_lt e0
      have hBl := cell_lt z0
      go_upto_if 15 with fail
      go_cut [4, 5] (fun _ _ wx => BoxAt wx B ⟨1, zv⟩ ∧ EndsAt wx b ⟨L, ⟨ho, hv⟩⟩ ∧ Below b w0 wx)
      case first =>
        have HLn : Hid (L = ⟨lo, lv⟩) := by show _ = _; rw [← HL.out]; exact lo_no (fun h => absurd h.1 (show ¬ (3 : Int) ≤ 1 by decide))
        go_wp2_with fail
        go_meet
        case rel => exact ⟨HBX.out, by rw [HLn.out]; exact HXE.out, hwc⟩
      case rest =>
        clear hwc HBX HXE z0 z1 z2 z3 z4 e0 e1 e2 e3 e4 e5 e6 e7 e8 e9 g0 g1 g2 g3 g4 g5 g6 g7 g8 g9 hbl hBl
        obtain ⟨hbx, hxe, hwc⟩ := hcut
        have HBX := Lib.hid hbx
        have HXE := Lib.hid hxe
        obtain ⟨z0, z1, z2, z3, z4⟩ := hbx
        obtain ⟨⟨e0, e1, e2, e3, e4, e5, e6, e7, e8, e9⟩, g0, g1, g2, g3, g4, g5, g6, g7, g8, g9⟩ := hxe
        simp only at z0 z1 z2 z3 z4 e0 e1 e2 e3 e4 e5 e6 e7 e8 e9
        have hbl := cell_lt e0
        have hBl := cell_lt z0
        obtain ⟨c, hc⟩ : ∃ c, V4.cmp zv hv = c := ⟨_, rfl⟩
        have HC := Lib.hid hc
        have HCm := Lib.hid (fun w h => cmpQ_as zv hv c HC.out w h hz3 hh3)
        clear hc
        by_cases t0 : ho = 0
        · have q0 : (ho == 0) = true := by simpa using t0
          have HT : Hid (ho = 0) := t0
          have HLn : Hid (stepHi ⟨ho, hv⟩ ⟨1, zv⟩ = ⟨minOp 1, zv⟩) := by show _ = _; exact hi_yes (show (1 : Int) ≤ 3 by decide) (.inl HT.out)
          clear t0
          go_wp2_with fail
          refine region_still_tail 7 (by kernel_rfl) (by kernel_rfl) ?_
          simp only [List.take_succ_cons, List.take_zero, List.drop_succ_cons, List.drop_zero]
          repeat still_step
          refine wpStill_nil ?_
          go_wp2_with fail
          refine (HCm.out _ (HE.out _ hwc.drew)).mono ?_
          rintro e w5 ⟨rfl, hb5⟩
          have hbx5 := HBX.out.below (((Below.refl _ _).drew).trans hb5) hBl
          have hxe5 := HXE.out.below (((Below.refl _ _).drew).trans hb5) hbl
          have hw5 := hwc.drew.trans (hb5.mono (Nat.le_of_lt hbl))
          clear z0 z1 z2 z3 z4 e0 e1 e2 e3 e4 e5 e6 e7 e8 e9 g0 g1 g2 g3 g4 g5 g6 g7 g8 g9 hbl hBl hb5
          have HBX5 := Lib.hid hbx5
          have HXE5 := Lib.hid hxe5
          obtain ⟨z0, z1, z2, z3, z4⟩ := hbx5
          obtain ⟨⟨e0, e1, e2, e3, e4, e5, e6, e7, e8, e9⟩, g0, g1, g2, g3, g4, g5, g6, g7, g8, g9⟩ := hxe5
          simp only at z0 z1 z2 z3 z4 e0 e1 e2 e3 e4 e5 e6 e7 e8 e9
          go_wp2_with fail
          go_end0
          exact ⟨rfl, by show EndsAt _ b ⟨stepLo ⟨lo, lv⟩ y.fix, stepHi ⟨ho, hv⟩ y.fix⟩; rw [HZ.out, HL.out, HLn.out]; exact HXE5.out.set_hi ⟨minOp 1, zv⟩, ((((hw5.setCell (Nat.le_refl _) _).setCell (Nat.le_refl _) _).setCell (Nat.le_refl _) _).setCell (Nat.le_refl _) _).setCell (Nat.le_refl _) _⟩
        have q0 : (ho == 0) = false := by simpa using t0
        by_cases t1 : c < 0
        · have q1 : decide (c < 0) = true := decide_eq_true t1
          have HT : Hid (c < 0) := t1
          have HLn : Hid (stepHi ⟨ho, hv⟩ ⟨1, zv⟩ = ⟨minOp 1, zv⟩) := by show _ = _; exact hi_yes (show (1 : Int) ≤ 3 by decide) (.inr (.inl (by rw [HC.out]; exact HT.out)))
          clear t1
          go_wp2_with fail
          refine region_still_tail 7 (by kernel_rfl) (by kernel_rfl) ?_
          simp only [List.take_succ_cons, List.take_zero, List.drop_succ_cons, List.drop_zero]
          repeat still_step
          refine wpStill_nil ?_
          go_wp2_with fail
          refine (HCm.out _ (HE.out _ hwc.drew)).mono ?_
          rintro e w5 ⟨rfl, hb5⟩
          have hbx5 := HBX.out.below (((Below.refl _ _).drew).trans hb5) hBl
          have hxe5 := HXE.out.below (((Below.refl _ _).drew).trans hb5) hbl
          have hw5 := hwc.drew.trans (hb5.mono (Nat.le_of_lt hbl))
          clear z0 z1 z2 z3 z4 e0 e1 e2 e3 e4 e5 e6 e7 e8 e9 g0 g1 g2 g3 g4 g5 g6 g7 g8 g9 hbl hBl hb5
          have HBX5 := Lib.hid hbx5
          have HXE5 := Lib.hid hxe5
          obtain ⟨z0, z1, z2, z3, z4⟩ := hbx5
          obtain ⟨⟨e0, e1, e2, e3, e4, e5, e6, e7, e8, e9⟩, g0, g1, g2, g3, g4, g5, g6, g7, g8, g9⟩ := hxe5
          simp only at z0 z1 z2 z3 z4 e0 e1 e2 e3 e4 e5 e6 e7 e8 e9
          go_wp2_with fail
          go_end0
          exact ⟨rfl, by show EndsAt _ b ⟨stepLo ⟨lo, lv⟩ y.fix, stepHi ⟨ho, hv⟩ y.fix⟩; rw [HZ.out, HL.out, HLn.out]; exact HXE5.out.set_hi ⟨minOp 1, zv⟩, ((((hw5.setCell (Nat.le_refl _) _).setCell (Nat.le_refl _) _).setCell (Nat.le_refl _) _).setCell (Nat.le_refl _) _).setCell (Nat.le_refl _) _⟩
        have q1 : decide (c < 0) = false := decide_eq_false t1
        by_cases t2 : c = 0
        case neg =>
          have q2 : (c == 0) = false := by simpa using t2
          have HT : Hid (ho ≠ 0 ∧ ¬ c < 0 ∧ c ≠ 0) := ⟨t0, t1, t2⟩
          have HLn : Hid (stepHi ⟨ho, hv⟩ ⟨1, zv⟩ = ⟨ho, hv⟩) := by show _ = _; refine hi_no ?_; rintro ⟨_, h | h | ⟨h, _⟩⟩; all_goals first | exact HT.out.1 h | exact HT.out.2.1 (by rw [HC.out] at h; exact h) | exact HT.out.2.2 (by rw [HC.out] at h; exact h)
          clear t0 t1 t2
          go_wp2_with fail
          refine region_still_tail 7 (by kernel_rfl) (by kernel_rfl) ?_
          simp only [List.take_succ_cons, List.take_zero, List.drop_succ_cons, List.drop_zero]
          repeat still_step
          refine wpStill_nil ?_
          go_wp2_with fail
          refine (HCm.out _ (HE.out _ hwc.drew)).mono ?_
          rintro e w5 ⟨rfl, hb5⟩
          have hbx5 := HBX.out.below (((Below.refl _ _).drew).trans hb5) hBl
          have hxe5 := HXE.out.below (((Below.refl _ _).drew).trans hb5) hbl
          have hw5 := hwc.drew.trans (hb5.mono (Nat.le_of_lt hbl))
          clear z0 z1 z2 z3 z4 e0 e1 e2 e3 e4 e5 e6 e7 e8 e9 g0 g1 g2 g3 g4 g5 g6 g7 g8 g9 hbl hBl hb5
          have HBX5 := Lib.hid hbx5
          have HXE5 := Lib.hid hxe5
          obtain ⟨z0, z1, z2, z3, z4⟩ := hbx5
          obtain ⟨⟨e0, e1, e2, e3, e4, e5, e6, e7, e8, e9⟩, g0, g1, g2, g3, g4, g5, g6, g7, g8, g9⟩ := hxe5
          simp only at z0 z1 z2 z3 z4 e0 e1 e2 e3 e4 e5 e6 e7 e8 e9
          go_wp2_with fail
          go_end0
          exact ⟨rfl, by show EndsAt _ b ⟨stepLo ⟨lo, lv⟩ y.fix, stepHi ⟨ho, hv⟩ y.fix⟩; rw [HZ.out, HL.out, HLn.out]; exact HXE5.out, hw5⟩
        have q2 : (c == 0) = true := by simpa using t2
        by_cases t3 : ho = 2
        · have q3 : (ho == 2) = true := by simpa using t3
          have HT : Hid (c = 0 ∧ ho = 2) := ⟨t2, t3⟩
          have HLn : Hid (stepHi ⟨ho, hv⟩ ⟨1, zv⟩ = ⟨minOp 1, zv⟩) := by show _ = _; exact hi_yes (show (1 : Int) ≤ 3 by decide) (.inr (.inr ⟨by rw [HC.out]; exact HT.out.1, rfl, HT.out.2⟩))
          clear t2 t3
          go_wp2_with fail
          refine region_still_tail 7 (by kernel_rfl) (by kernel_rfl) ?_
          simp only [List.take_succ_cons, List.take_zero, List.drop_succ_cons, List.drop_zero]
          repeat still_step
          refine wpStill_nil ?_
          go_wp2_with fail
          refine (HCm.out _ (HE.out _ hwc.drew)).mono ?_
          rintro e w5 ⟨rfl, hb5⟩
          have hbx5 := HBX.out.below (((Below.refl _ _).drew).trans hb5) hBl
          have hxe5 := HXE.out.below (((Below.refl _ _).drew).trans hb5) hbl
          have hw5 := hwc.drew.trans (hb5.mono (Nat.le_of_lt hbl))
          clear z0 z1 z2 z3 z4 e0 e1 e2 e3 e4 e5 e6 e7 e8 e9 g0 g1 g2 g3 g4 g5 g6 g7 g8 g9 hbl hBl hb5
          have HBX5 := Lib.hid hbx5
          have HXE5 := Lib.hid hxe5
          obtain ⟨z0, z1, z2, z3, z4⟩ := hbx5
          obtain ⟨⟨e0, e1, e2, e3, e4, e5, e6, e7, e8, e9⟩, g0, g1, g2, g3, g4, g5, g6, g7, g8, g9⟩ := hxe5
          simp only at z0 z1 z2 z3 z4 e0 e1 e2 e3 e4 e5 e6 e7 e8 e9
          go_wp2_with fail
          go_end0
          exact ⟨rfl, by show EndsAt _ b ⟨stepLo ⟨lo, lv⟩ y.fix, stepHi ⟨ho, hv⟩ y.fix⟩; rw [HZ.out, HL.out, HLn.out]; exact HXE5.out.set_hi ⟨minOp 1, zv⟩, ((((hw5.setCell (Nat.le_refl _) _).setCell (Nat.le_refl _) _).setCell (Nat.le_refl _) _).setCell (Nat.le_refl _) _).setCell (Nat.le_refl _) _⟩
        have q3 : (ho == 2) = false := by simpa using t3
        have HT : Hid (ho ≠ 0 ∧ ¬ c < 0 ∧ ho ≠ 2) := ⟨t0, t1, t3⟩
        have HLn : Hid (stepHi ⟨ho, hv⟩ ⟨1, zv⟩ = ⟨ho, hv⟩) := by show _ = _; refine hi_no ?_; rintro ⟨_, h | h | ⟨_, _, h⟩⟩; all_goals first | exact HT.out.1 h | exact HT.out.2.1 (by rw [HC.out] at h; exact h) | exact HT.out.2.2 h
        clear t0 t1 t3
        go_wp2_with fail
        refine region_still_tail 7 (by kernel_rfl) (by kernel_rfl) ?_
        simp only [List.take_succ_cons, List.take_zero, List.drop_succ_cons, List.drop_zero]
        repeat still_step
        refine wpStill_nil ?_
        go_wp2_with fail
        refine (HCm.out _ (HE.out _ hwc.drew)).mono ?_
        rintro e w5 ⟨rfl, hb5⟩
        have hbx5 := HBX.out.below (((Below.refl _ _).drew).trans hb5) hBl
        have hxe5 := HXE.out.below (((Below.refl _ _).drew).trans hb5) hbl
        have hw5 := hwc.drew.trans (hb5.mono (Nat.le_of_lt hbl))
        clear z0 z1 z2 z3 z4 e0 e1 e2 e3 e4 e5 e6 e7 e8 e9 g0 g1 g2 g3 g4 g5 g6 g7 g8 g9 hbl hBl hb5
        have HBX5 := Lib.hid hbx5
        have HXE5 := Lib.hid hxe5
        obtain ⟨z0, z1, z2, z3, z4⟩ := hbx5
        obtain ⟨⟨e0, e1, e2, e3, e4, e5, e6, e7, e8, e9⟩, g0, g1, g2, g3, g4, g5, g6, g7, g8, g9⟩ := hxe5
        simp only at z0 z1 z2 z3 z4 e0 e1 e2 e3 e4 e5 e6 e7 e8 e9
        go_wp2_with fail
        go_end0
        exact ⟨rfl, by show EndsAt _ b ⟨stepLo ⟨lo, lv⟩ y.fix, stepHi ⟨ho, hv⟩ y.fix⟩; rw [HZ.out, HL.out, HLn.out]; exact HXE5.out, hw5⟩
    · skip
      have HBX := Lib.hid hbx
      have HXE := Lib.hid hxe
      obtain ⟨z0, z1, z2, z3, z4⟩ := hbx
      obtain ⟨⟨e0, e1, e2, e3, e4, e5, e6, e7, e8, e9⟩, g0, g1, g2, g3, g4, g5, g6, g7, g8, g9⟩ := hxe
      simp only at z0 z1 z2 z3 z4 e0 e1 e2 e3 e4 e5 e6 e7 e8 e9
      have hbl := cell_lt e0
      have hBl := cell_lt z0
      go_upto_if 15 with fail
      go_cut [4, 5] (fun _ _ wx => BoxAt wx B ⟨2, zv⟩ ∧ EndsAt wx b ⟨L, ⟨ho, hv⟩⟩ ∧ Below b w0 wx)
      case first =>
        have HLn : Hid (L = ⟨lo, lv⟩) := by show _ = _; rw [← HL.out]; exact lo_no (fun h => absurd h.1 (show ¬ (3 : Int) ≤ 2 by decide))
        go_wp2_with fail
        go_meet
        case rel => exact ⟨HBX.out, by rw [HLn.out]; exact HXE.out, hwc⟩
      case rest =>
        clear hwc HBX HXE z0 z1 z2 z3 z4 e0 e1 e2 e3 e4 e5 e6 e7 e8 e9 g0 g1 g2 g3 g4 g5 g6 g7 g8 g9 hbl hBl
        obtain ⟨hbx, hxe, hwc⟩ := hcut
        have HBX := Lib.hid hbx
        have HXE := Lib.hid hxe
        obtain ⟨z0, z1, z2, z3, z4⟩ := hbx
        obtain ⟨⟨e0, e1, e2, e3, e4, e5, e6, e7, e8, e9⟩, g0, g1, g2, g3, g4, g5, g6, g7, g8, g9⟩ := hxe
        simp only at z0 z1 z2 z3 z4 e0 e1 e2 e3 e4 e5 e6 e7 e8 e9
        have hbl := cell_lt e0
        have hBl := cell_lt z0
        obtain ⟨c, hc⟩ : ∃ c, V4.cmp zv hv = c := ⟨_, rfl⟩
        have HC := Lib.hid hc
        have HCm := Lib.hid (fun w h => cmpQ_as zv hv c HC.out w h hz3 hh3)
        clear hc
        by_cases t0 : ho = 0
        · have q0 : (ho == 0) = true := by simpa using t0
          have HT : Hid (ho = 0) := t0
          have HLn : Hid (stepHi ⟨ho, hv⟩ ⟨2, zv⟩ = ⟨minOp 2, zv⟩) := by show _ = _; exact hi_yes (show (2 : Int) ≤ 3 by decide) (.inl HT.out)
          clear t0
          go_wp2_with fail
          refine region_still_tail 7 (by kernel_rfl) (by kernel_rfl) ?_
          simp only [List.take_succ_cons, List.take_zero, List.drop_succ_cons, List.drop_zero]
          repeat still_step
          refine wpStill_nil ?_
          go_wp2_with fail
          refine (HCm.out _ (HE.out _ hwc.drew)).mono ?_
          rintro e w5 ⟨rfl, hb5⟩
          have hbx5 := HBX.out.below (((Below.refl _ _).drew).trans hb5) hBl
          have hxe5 := HXE.out.below (((Below.refl _ _).drew).trans hb5) hbl
          have hw5 := hwc.drew.trans (hb5.mono (Nat.le_of_lt hbl))
          clear z0 z1 z2 z3 z4 e0 e1 e2 e3 e4 e5 e6 e7 e8 e9 g0 g1 g2 g3 g4 g5 g6 g7 g8 g9 hbl hBl hb5
          have HBX5 := Lib.hid hbx5
          have HXE5 := Lib.hid hxe5
          obtain ⟨z0, z1, z2, z3, z4⟩ := hbx5
          obtain ⟨⟨e0, e1, e2, e3, e4, e5, e6, e7, e8, e9⟩, g0, g1, g2, g3, g4, g5, g6, g7, g8, g9⟩ := hxe5
          simp only at z0 z1 z2 z3 z4 e0 e1 e2 e3 e4 e5 e6 e7 e8 e9
          go_wp2_with fail
          go_end0
          exact ⟨rfl, by show EndsAt _ b ⟨stepLo ⟨lo, lv⟩ y.fix, stepHi ⟨ho, hv⟩ y.fix⟩; rw [HZ.out, HL.out, HLn.out]; exact HXE5.out.set_hi ⟨minOp 2, zv⟩, ((((hw5.setCell (Nat.le_refl _) _).setCell (Nat.le_refl _) _).setCell (Nat.le_refl _) _).setCell (Nat.le_refl _) _).setCell (Nat.le_refl _) _⟩
        have q0 : (ho == 0) = false := by simpa using t0
        by_cases t1 : c < 0
        · have q1 : decide (c < 0) = true := decide_eq_true t1
          have HT : Hid (c < 0) := t1
          have HLn : Hid (stepHi ⟨ho, hv⟩ ⟨2, zv⟩ = ⟨minOp 2, zv⟩) := by show _ = _; exact hi_yes (show (2 : Int) ≤ 3 by decide) (.inr (.inl (by rw [HC.out]; exact HT.out)))
          clear t1
          go_wp2_with fail
          refine region_still_tail 7 (by kernel_rfl) (by kernel_rfl) ?_
          simp only [List.take_succ_cons, List.take_zero, List.drop_succ_cons, List.drop_zero]
          repeat still_step
          refine wpStill_nil ?_
          go_wp2_with fail
          refine (HCm.out _ (HE.out _ hwc.drew)).mono ?_
          rintro e w5 ⟨rfl, hb5⟩
          have hbx5 := HBX.out.below (((Below.refl _ _).drew).trans hb5) hBl
          have hxe5 := HXE.out.below (((Below.refl _ _).drew).trans hb5) hbl
          have hw5 := hwc.drew.trans (hb5.mono (Nat.le_of_lt hbl))
          clear z0 z1 z2 z3 z4 e0 e1 e2 e3 e4 e5 e6 e7 e8 e9 g0 g1 g2 g3 g4 g5 g6 g7 g8 g9 hbl hBl hb5
          have HBX5 := Lib.hid hbx5
          have HXE5 := Lib.hid hxe5
          obtain ⟨z0, z1, z2, z3, z4⟩ := hbx5
          obtain ⟨⟨e0, e1, e2, e3, e4, e5, e6, e7, e8, e9⟩, g0, g1, g2, g3, g4, g5, g6, g7, g8, g9⟩ := hxe5
          simp only at z0 z1 z2 z3 z4 e0 e1 e2 e3 e4 e5 e6 e7 e8 e9
          go_wp2_with fail
          go_end0
          exact ⟨rfl, by show EndsAt _ b ⟨stepLo ⟨lo, lv⟩ y.fix, stepHi ⟨ho, hv⟩ y.fix⟩; rw [HZ.out, HL.out, HLn.out]; exact HXE5.out.set_hi ⟨minOp 2, zv⟩, ((((hw5.setCell (Nat.le_refl _) _).setCell (Nat.le_refl _) _).setCell (Nat.le_refl _) _).setCell (Nat.le_refl _) _).setCell (Nat.le_refl _) _⟩
        have q1 : decide (c < 0) = false := decide_eq_false t1
        by_cases t2 : c = 0
        case neg =>
          have q2 : (c == 0) = false := by simpa using t2
          have HT : Hid (ho ≠ 0 ∧ ¬ c < 0 ∧ c ≠ 0) := ⟨t0, t1, t2⟩
          have HLn : Hid (stepHi ⟨ho, hv⟩ ⟨2, zv⟩ = ⟨ho, hv⟩) := by show _ = _; refine hi_no ?_; rintro ⟨_, h | h | ⟨h, _⟩⟩; all_goals first | exact HT.out.1 h | exact HT.out.2.1 (by rw [HC.out] at h; exact h) | exact HT.out.2.2 (by rw [HC.out] at h; exact h)
          clear t0 t1 t2
          go_wp2_with fail
          refine region_still_tail 7 (by kernel_rfl) (by kernel_rfl) ?_
          simp only [List.take_succ_cons, List.take_zero, List.drop_succ_cons, List.drop_zero]
          repeat still_step
          refine wpStill_nil ?_
          go_wp2_with fail
          refine (HCm.out _ (HE.out _ hwc.drew)).mono ?_
          rintro e w5 ⟨rfl, hb5⟩
          have hbx5 := HBX.out.below (((Below.refl _ _).drew).trans hb5) hBl
          have hxe5 := HXE.out.below (((Below.refl _ _).drew).trans hb5) hbl
          have hw5 := hwc.drew.trans (hb5.mono (Nat.le_of_lt hbl))
          clear z0 z1 z2 z3 z4 e0 e1 e2 e3 e4 e5 e6 e7 e8 e9 g0 g1 g2 g3 g4 g5 g6 g7 g8 g9 hbl hBl hb5
          have HBX5 := Lib.hid hbx5
          have HXE5 := Lib.hid hxe5
          obtain ⟨z0, z1, z2, z3, z4⟩ := hbx5
          obtain ⟨⟨e0, e1, e2, e3, e4, e5, e6, e7, e8, e9⟩, g0, g1, g2, g3, g4, g5, g6, g7, g8, g9⟩ := hxe5
          simp only at z0 z1 z2 z3 z4 e0 e1 e2 e3 e4 e5 e6 e7 e8 e9
          go_wp2_with fail
          go_end0
          exact ⟨rfl, by show EndsAt _ b ⟨stepLo ⟨lo, lv⟩ y.fix, stepHi ⟨ho, hv⟩ y.fix⟩; rw [HZ.out, HL.out, HLn.out]; exact HXE5.out, hw5⟩
        have q2 : (c == 0) = true := by simpa using t2
        have HT : Hid (ho ≠ 0 ∧ ¬ c < 0) := ⟨t0, t1⟩
        have HLn : Hid (stepHi ⟨ho, hv⟩ ⟨2, zv⟩ = ⟨ho, hv⟩) := by show _ = _; refine hi_no ?_; rintro ⟨_, h | h | ⟨_, h, _⟩⟩; all_goals first | exact HT.out.1 h | exact HT.out.2 (by rw [HC.out] at h; exact h) | exact absurd h (show ¬ minOp 2 = 1 by decide)
        clear t0 t1
        go_wp2_with fail
        refine region_still_tail 7 (by kernel_rfl) (by kernel_rfl) ?_
        simp only [List.take_succ_cons, List.take_zero, List.drop_succ_cons, List.drop_zero]
        repeat still_step
        refine wpStill_nil ?_
        go_wp2_with fail
        refine (HCm.out _ (HE.out _ hwc.drew)).mono ?_
        rintro e w5 ⟨rfl, hb5⟩
        have hbx5 := HBX.out.below (((Below.refl _ _).drew).trans hb5) hBl
        have hxe5 := HXE.out.below (((Below.refl _ _).drew).trans hb5) hbl
        have hw5 := hwc.drew.trans (hb5.mono (Nat.le_of_lt hbl))
        clear z0 z1 z2 z3 z4 e0 e1 e2 e3 e4 e5 e6 e7 e8 e9 g0 g1 g2 g3 g4 g5 g6 g7 g8 g9 hbl hBl hb5
        have HBX5 := Lib.hid hbx5
        have HXE5 := Lib.hid hxe5
        obtain ⟨z0, z1, z2, z3, z4⟩ := hbx5
        obtain ⟨⟨e0, e1, e2, e3, e4, e5, e6, e7, e8, e9⟩, g0, g1, g2, g3, g4, g5, g6, g7, g8, g9⟩ := hxe5
        simp only at z0 z1 z2 z3 z4 e0 e1 e2 e3 e4 e5 e6 e7 e8 e9
        go_wp2_with fail
        go_end0
        exact ⟨rfl, by show EndsAt _ b ⟨stepLo ⟨lo, lv⟩ y.fix, stepHi ⟨ho, hv⟩ y.fix⟩; rw [HZ.out, HL.out, HLn.out]; exact HXE5.out, hw5⟩
    · skip
      have HBX := Lib.hid hbx
      have HXE := Lib.hid hxe
      obtain ⟨z0, z1, z2, z3, z4⟩ := hbx
      obtain ⟨⟨e0, e1, e2, e3, e4, e5, e6, e7, e8, e9⟩, g0, g1, g2, g3, g4, g5, g6, g7, g8, g9⟩ := hxe
      simp only at z0 z1 z2 z3 z4 e0 e1 e2 e3 e4 e5 e6 e7 e8 e9
      have hbl := cell_lt e0
      have hBl := cell_lt z0
      go_upto_if 15 with fail
      go_cut [4, 5] (fun _ _ wx => BoxAt wx B ⟨3, zv⟩ ∧ EndsAt wx b ⟨L, ⟨ho, hv⟩⟩ ∧ Below b w0 wx)
      case first =>
        obtain ⟨c, hc⟩ : ∃ c, V4.cmp zv lv = c := ⟨_, rfl⟩
        have HC := Lib.hid hc
        have HCm := Lib.hid (fun w h => cmpQ_as zv lv c HC.out w h hz3 hl3)
        clear hc
        by_cases t0 : lo = 0
        · have q0 : (lo == 0) = true := by simpa using t0
          have HT : Hid (lo = 0) := t0
          have HLn : Hid (L = ⟨maxOp 3, zv⟩) := by show _ = _; rw [← HL.out]; exact lo_yes (show (3 : Int) ≤ 3 by decide) (.inl HT.out)
          clear t0
          go_wp2_with fail
          refine region_still_tail 7 (by kernel_rfl) (by kernel_rfl) ?_
          simp only [List.take_succ_cons, List.take_zero, List.drop_succ_cons, List.drop_zero]
          repeat still_step
          refine wpStill_nil ?_
          go_wp2_with fail
          refine (HCm.out _ (HE.out _ hwc.drew)).mono ?_
          rintro e w5 ⟨rfl, hb5⟩
          have hbx5 := HBX.out.below (((Below.refl _ _).drew).trans hb5) hBl
          have hxe5 := HXE.out.below (((Below.refl _ _).drew).trans hb5) hbl
          have hw5 := hwc.drew.trans (hb5.mono (Nat.le_of_lt hbl))
          clear z0 z1 z2 z3 z4 e0 e1 e2 e3 e4 e5 e6 e7 e8 e9 g0 g1 g2 g3 g4 g5 g6 g7 g8 g9 hbl hBl hb5
          have HBX5 := Lib.hid hbx5
          have HXE5 := Lib.hid hxe5
          obtain ⟨z0, z1, z2, z3, z4⟩ := hbx5
          obtain ⟨⟨e0, e1, e2, e3, e4, e5, e6, e7, e8, e9⟩, g0, g1, g2, g3, g4, g5, g6, g7, g8, g9⟩ := hxe5
          simp only at z0 z1 z2 z3 z4 e0 e1 e2 e3 e4 e5 e6 e7 e8 e9
          go_wp2_with fail
          go_meet
          case rel => exact ⟨((((HBX5.out.far hbB _ _).far hbB _ _).far hbB _ _).far hbB _ _).far hbB _ _, by rw [HLn.out]; exact HXE5.out.set_lo ⟨maxOp 3, zv⟩, ((((hw5.setCell (Nat.le_refl _) _).setCell (Nat.le_refl _) _).setCell (Nat.le_refl _) _).setCell (Nat.le_refl _) _).setCell (Nat.le_refl _) _⟩
        have q0 : (lo == 0) = false := by simpa using t0
        by_cases t1 : 0 < c
        · have q1 : decide (0 < c) = true := decide_eq_true t1
          have HT : Hid (0 < c) := t1
          have HLn : Hid (L = ⟨maxOp 3, zv⟩) := by show _ = _; rw [← HL.out]; exact lo_yes (show (3 : Int) ≤ 3 by decide) (.inr (.inl (by rw [HC.out]; exact HT.out)))
          clear t1
          go_wp2_with fail
          refine region_still_tail 7 (by kernel_rfl) (by kernel_rfl) ?_
          simp only [List.take_succ_cons, List.take_zero, List.drop_succ_cons, List.drop_zero]
          repeat still_step
          refine wpStill_nil ?_
          go_wp2_with fail
          refine (HCm.out _ (HE.out _ hwc.drew)).mono ?_
          rintro e w5 ⟨rfl, hb5⟩
          have hbx5 := HBX.out.below (((Below.refl _ _).drew).trans hb5) hBl
          have hxe5 := HXE.out.below (((Below.refl _ _).drew).trans hb5) hbl
          have hw5 := hwc.drew.trans (hb5.mono (Nat.le_of_lt hbl))
          clear z0 z1 z2 z3 z4 e0 e1 e2 e3 e4 e5 e6 e7 e8 e9 g0 g1 g2 g3 g4 g5 g6 g7 g8 g9 hbl hBl hb5
          have HBX5 := Lib.hid hbx5
          have HXE5 := Lib.hid hxe5
          obtain ⟨z0, z1, z2, z3, z4⟩ := hbx5
          obtain ⟨⟨e0, e1, e2, e3, e4, e5, e6, e7, e8, e9⟩, g0, g1, g2, g3, g4, g5, g6, g7, g8, g9⟩ := hxe5
          simp only at z0 z1 z2 z3 z4 e0 e1 e2 e3 e4 e5 e6 e7 e8 e9
          go_wp2_with fail
          go_meet
          case rel => exact ⟨((((HBX5.out.far hbB _ _).far hbB _ _).far hbB _ _).far hbB _ _).far hbB _ _, by rw [HLn.out]; exact HXE5.out.set_lo ⟨maxOp 3, zv⟩, ((((hw5.setCell (Nat.le_refl _) _).setCell (Nat.le_refl _) _).setCell (Nat.le_refl _) _).setCell (Nat.le_refl _) _).setCell (Nat.le_refl _) _⟩
        have q1 : decide (0 < c) = false := decide_eq_false t1
        by_cases t2 : c = 0
        case neg =>
          have q2 : (c == 0) = false := by simpa using t2
          have HT : Hid (lo ≠ 0 ∧ ¬ 0 < c ∧ c ≠ 0) := ⟨t0, t1, t2⟩
          have HLn : Hid (L = ⟨lo, lv⟩) := by show _ = _; rw [← HL.out]; refine lo_no ?_; rintro ⟨_, h | h | ⟨h, _⟩⟩; all_goals first | exact HT.out.1 h | exact HT.out.2.1 (by rw [HC.out] at h; exact h) | exact HT.out.2.2 (by rw [HC.out] at h; exact h)
          clear t0 t1 t2
          go_wp2_with fail
          refine region_still_tail 7 (by kernel_rfl) (by kernel_rfl) ?_
          simp only [List.take_succ_cons, List.take_zero, List.drop_succ_cons, List.drop_zero]
          repeat still_step
          refine wpStill_nil ?_
          go_wp2_with fail
          refine (HCm.out _ (HE.out _ hwc.drew)).mono ?_
          rintro e w5 ⟨rfl, hb5⟩
          have hbx5 := HBX.out.below (((Below.refl _ _).drew).trans hb5) hBl
          have hxe5 := HXE.out.below (((Below.refl _ _).drew).trans hb5) hbl
          have hw5 := hwc.drew.trans (hb5.mono (Nat.le_of_lt hbl))
          clear z0 z1 z2 z3 z4 e0 e1 e2 e3 e4 e5 e6 e7 e8 e9 g0 g1 g2 g3 g4 g5 g6 g7 g8 g9 hbl hBl hb5
          have HBX5 := Lib.hid hbx5
          have HXE5 := Lib.hid hxe5
          obtain ⟨z0, z1, z2, z3, z4⟩ := hbx5
          obtain ⟨⟨e0, e1, e2, e3, e4, e5, e6, e7, e8, e9⟩, g0, g1, g2, g3, g4, g5, g6, g7, g8, g9⟩ := hxe5
          simp only at z0 z1 z2 z3 z4 e0 e1 e2 e3 e4 e5 e6 e7 e8 e9
          go_wp2_with fail
          go_meet
          case rel => exact ⟨HBX5.out, by rw [HLn.out]; exact HXE5.out, hw5⟩
        have q2 : (c == 0) = true := by simpa using t2
        have HT : Hid (lo ≠ 0 ∧ ¬ 0 < c) := ⟨t0, t1⟩
        have HLn : Hid (L = ⟨lo, lv⟩) := by show _ = _; rw [← HL.out]; refine lo_no ?_; rintro ⟨_, h | h | ⟨_, h, _⟩⟩; all_goals first | exact HT.out.1 h | exact HT.out.2 (by rw [HC.out] at h; exact h) | exact absurd h (show ¬ maxOp 3 = 5 by decide)
        clear t0 t1
        go_wp2_with fail
        refine region_still_tail 7 (by kernel_rfl) (by kernel_rfl) ?_
        simp only [List.take_succ_cons, List.take_zero, List.drop_succ_cons, List.drop_zero]
        repeat still_step
        refine wpStill_nil ?_
        go_wp2_with fail
        refine (HCm.out _ (HE.out _ hwc.drew)).mono ?_
        rintro e w5 ⟨rfl, hb5⟩
        have hbx5 := HBX.out.below (((Below.refl _ _).drew).trans hb5) hBl
        have hxe5 := HXE.out.below (((Below.refl _ _).drew).trans hb5) hbl
        have hw5 := hwc.drew.trans (hb5.mono (Nat.le_of_lt hbl))
        clear z0 z1 z2 z3 z4 e0 e1 e2 e3 e4 e5 e6 e7 e8 e9 g0 g1 g2 g3 g4 g5 g6 g7 g8 g9 hbl hBl hb5
        have HBX5 := Lib.hid hbx5
        have HXE5 := Lib.hid hxe5
        obtain ⟨z0, z1, z2, z3, z4⟩ := hbx5
        obtain ⟨⟨e0, e1, e2, e3, e4, e5, e6, e7, e8, e9⟩, g0, g1, g2, g3, g4, g5, g6, g7, g8, g9⟩ := hxe5
        simp only at z0 z1 z2 z3 z4 e0 e1 e2 e3 e4 e5 e6 e7 e8 e9
        go_wp2_with fail
        go_meet
        case rel => exact ⟨HBX5.out, by rw [HLn.out]; exact HXE5.out, hw5⟩
      case rest =>
        clear hwc HBX HXE z0 z1 z2 z3 z4 e0 e1 e2 e3 e4 e5 e6 e7 e8 e9 g0 g1 g2 g3 g4 g5 g6 g7 g8 g9 hbl hBl
        obtain ⟨hbx, hxe, hwc⟩ := hcut
        have HBX := Lib.hid hbx
        have HXE := Lib.hid hxe
        obtain ⟨z0, z1, z2, z3, z4⟩ := hbx
        obtain ⟨⟨e0, e1, e2, e3, e4, e5, e6, e7, e8, e9⟩, g0, g1, g2, g3, g4, g5, g6, g7, g8, g9⟩ := hxe
        simp only at z0 z1 z2 z3 z4 e0 e1 e2 e3 e4 e5 e6 e7 e8 e9
        have hbl := cell_lt e0
        have hBl := cell_lt z0
        obtain ⟨c, hc⟩ : ∃ c, V4.cmp zv hv = c := ⟨_, rfl⟩
        have HC := Lib.hid hc
        have HCm := Lib.hid (fun w h => cmpQ_as zv hv c HC.out w h hz3 hh3)
        clear hc
        by_cases t0 : ho = 0
        · have q0 : (ho == 0) = true := by simpa using t0
          have HT : Hid (ho = 0) := t0
          have HLn : Hid (stepHi ⟨ho, hv⟩ ⟨3, zv⟩ = ⟨minOp 3, zv⟩) := by show _ = _; exact hi_yes (show (3 : Int) ≤ 3 by decide) (.inl HT.out)
          clear t0
          go_wp2_with fail
          refine region_still_tail 7 (by kernel_rfl) (by kernel_rfl) ?_
          simp only [List.take_succ_cons, List.take_zero, List.drop_succ_cons, List.drop_zero]
          repeat still_step
          refine wpStill_nil ?_
          go_wp2_with fail
          refine (HCm.out _ (HE.out _ hwc.drew)).mono ?_
          rintro e w5 ⟨rfl, hb5⟩
          have hbx5 := HBX.out.below (((Below.refl _ _).drew).trans hb5) hBl
          have hxe5 := HXE.out.below (((Below.refl _ _).drew).trans hb5) hbl
          have hw5 := hwc.drew.trans (hb5.mono (Nat.le_of_lt hbl))
          clear z0 z1 z2 z3 z4 e0 e1 e2 e3 e4 e5 e6 e7 e8 e9 g0 g1 g2 g3 g4 g5 g6 g7 g8 g9 hbl hBl hb5
          have HBX5 := Lib.hid hbx5
          have HXE5 := Lib.hid hxe5
          obtain ⟨z0, z1, z2, z3, z4⟩ := hbx5
          obtain ⟨⟨e0, e1, e2, e3, e4, e5, e6, e7, e8, e9⟩, g0, g1, g2, g3, g4, g5, g6, g7, g8, g9⟩ := hxe5
          simp only at z0 z1 z2 z3 z4 e0 e1 e2 e3 e4 e5 e6 e7 e8 e9
          go_wp2_with fail
          go_end0
          exact ⟨rfl, by show EndsAt _ b ⟨stepLo ⟨lo, lv⟩ y.fix, stepHi ⟨ho, hv⟩ y.fix⟩; rw [HZ.out, HL.out, HLn.out]; exact HXE5.out.set_hi ⟨minOp 3, zv⟩, ((((hw5.setCell (Nat.le_refl _) _).setCell (Nat.le_refl _) _).setCell (Nat.le_refl _) _).setCell (Nat.le_refl _) _).setCell (Nat.le_refl _) _⟩
        have q0 : (ho == 0) = false := by simpa using t0
        by_cases t1 : c < 0
        · have q1 : decide (c < 0) = true := decide_eq_true t1
          have HT : Hid (c < 0) := t1
          have HLn : Hid (stepHi ⟨ho, hv⟩ ⟨3, zv⟩ = ⟨minOp 3, zv⟩) := by show _ = _; exact hi_yes (show (3 : Int) ≤ 3 by decide) (.inr (.inl (by rw [HC.out]; exact HT.out)))
          clear t1
          go_wp2_with fail
          refine region_still_tail 7 (by kernel_rfl) (by kernel_rfl) ?_
          simp only [List.take_succ_cons, List.take_zero, List.drop_succ_cons, List.drop_zero]
          repeat still_step
          refine wpStill_nil ?_
          go_wp2_with fail
          refine (HCm.out _ (HE.out _ hwc.drew)).mono ?_
          rintro e w5 ⟨rfl, hb5⟩
          have hbx5 := HBX.out.below (((Below.refl _ _).drew).trans hb5) hBl
          have hxe5 := HXE.out.below (((Below.refl _ _).drew).trans hb5) hbl
          have hw5 := hwc.drew.trans (hb5.mono (Nat.le_of_lt hbl))
          clear z0 z1 z2 z3 z4 e0 e1 e2 e3 e4 e5 e6 e7 e8 e9 g0 g1 g2 g3 g4 g5 g6 g7 g8 g9 hbl hBl hb5
          have HBX5 := Lib.hid hbx5
          have HXE5 := Lib.hid hxe5
          obtain ⟨z0, z1, z2, z3, z4⟩ := hbx5
          obtain ⟨⟨e0, e1, e2, e3, e4, e5, e6, e7, e8, e9⟩, g0, g1, g2, g3, g4, g5, g6, g7, g8, g9⟩ := hxe5
          simp only at z0 z1 z2 z3 z4 e0 e1 e2 e3 e4 e5 e6 e7 e8 e9
          go_wp2_with fail
          go_end0
          exact ⟨rfl, by show EndsAt _ b ⟨stepLo ⟨lo, lv⟩ y.fix, stepHi ⟨ho, hv⟩ y.fix⟩; rw [HZ.out, HL.out, HLn.out]; exact HXE5.out.set_hi ⟨minOp 3, zv⟩, ((((hw5.setCell (Nat.le_refl _) _).setCell (Nat.le_refl _) _).setCell (Nat.le_refl _) _).setCell (Nat.le_refl _) _).setCell (Nat.le_refl _) _⟩
        have q1 : decide (c < 0) = false := decide_eq_false t1
        by_cases t2 : c = 0
        case neg =>
          have q2 : (c == 0) = false := by simpa using t2
          have HT : Hid (ho ≠ 0 ∧ ¬ c < 0 ∧ c ≠ 0) := ⟨t0, t1, t2⟩
          have HLn : Hid (stepHi ⟨ho, hv⟩ ⟨3, zv⟩ = ⟨ho, hv⟩) := by show _ = _; refine hi_no ?_; rintro ⟨_, h | h | ⟨h, _⟩⟩; all_goals first | exact HT.out.1 h | exact HT.out.2.1 (by rw [HC.out] at h; exact h) | exact HT.out.2.2 (by rw [HC.out] at h; exact h)
          clear t0 t1 t2
          go_wp2_with fail
          refine region_still_tail 7 (by kernel_rfl) (by kernel_rfl) ?_
          simp only [List.take_succ_cons, List.take_zero, List.drop_succ_cons, List.drop_zero]
          repeat still_step
          refine wpStill_nil ?_
          go_wp2_with fail
          refine (HCm.out _ (HE.out _ hwc.drew)).mono ?_
          rintro e w5 ⟨rfl, hb5⟩
          have hbx5 := HBX.out.below (((Below.refl _ _).drew).trans hb5) hBl
          have hxe5 := HXE.out.below (((Below.refl _ _).drew).trans hb5) hbl
          have hw5 := hwc.drew.trans (hb5.mono (Nat.le_of_lt hbl))
          clear z0 z1 z2 z3 z4 e0 e1 e2 e3 e4 e5 e6 e7 e8 e9 g0 g1 g2 g3 g4 g5 g6 g7 g8 g9 hbl hBl hb5
          have HBX5 := Lib.hid hbx5
          have HXE5 := Lib.hid hxe5
          obtain ⟨z0, z1, z2, z3, z4⟩ := hbx5
          obtain ⟨⟨e0, e1, e2, e3, e4, e5, e6, e7, e8, e9⟩, g0, g1, g2, g3, g4, g5, g6, g7, g8, g9⟩ := hxe5
          simp only at z0 z1 z2 z3 z4 e0 e1 e2 e3 e4 e5 e6 e7 e8 e9
          go_wp2_with fail
          go_end0
          exact ⟨rfl, by show EndsAt _ b ⟨stepLo ⟨lo, lv⟩ y.fix, stepHi ⟨ho, hv⟩ y.fix⟩; rw [HZ.out, HL.out, HLn.out]; exact HXE5.out, hw5⟩
        have q2 : (c == 0) = true := by simpa using t2
        have HT : Hid (ho ≠ 0 ∧ ¬ c < 0) := ⟨t0, t1⟩
        have HLn : Hid (stepHi ⟨ho, hv⟩ ⟨3, zv⟩ = ⟨ho, hv⟩) := by show _ = _; refine hi_no ?_; rintro ⟨_, h | h | ⟨_, h, _⟩⟩; all_goals first | exact HT.out.1 h | exact HT.out.2 (by rw [HC.out] at h; exact h) | exact absurd h (show ¬ minOp 3 = 1 by decide)
        clear t0 t1
        go_wp2_with fail
        refine region_still_tail 7 (by kernel_rfl) (by kernel_rfl) ?_
        simp only [List.take_succ_cons, List.take_zero, List.drop_succ_cons, List.drop_zero]
        repeat still_step
        refine wpStill_nil ?_
        go_wp2_with fail
        refine (HCm.out _ (HE.out _ hwc.drew)).mono ?_
        rintro e w5 ⟨rfl, hb5⟩
        have hbx5 := HBX.out.below (((Below.refl _ _).drew).trans hb5) hBl
        have hxe5 := HXE.out.below (((Below.refl _ _).drew).trans hb5) hbl
        have hw5 := hwc.drew.trans (hb5.mono (Nat.le_of_lt hbl))
        clear z0 z1 z2 z3 z4 e0 e1 e2 e3 e4 e5 e6 e7 e8 e9 g0 g1 g2 g3 g4 g5 g6 g7 g8 g9 hbl hBl hb5
        have HBX5 := Lib.hid hbx5
        have HXE5 := Lib.hid hxe5
        obtain ⟨z0, z1, z2, z3, z4⟩ := hbx5
        obtain ⟨⟨e0, e1, e2, e3, e4, e5, e6, e7, e8, e9⟩, g0, g1, g2, g3, g4, g5, g6, g7, g8, g9⟩ := hxe5
        simp only at z0 z1 z2 z3 z4 e0 e1 e2 e3 e4 e5 e6 e7 e8 e9
        go_wp2_with fail
        go_end0
        exact ⟨rfl, by show EndsAt _ b ⟨stepLo ⟨lo, lv⟩ y.fix, stepHi ⟨ho, hv⟩ y.fix⟩; rw [HZ.out, HL.out, HLn.out]; exact HXE5.out, hw5⟩
    · skip
      have HBX := Lib.hid hbx
      have HXE := Lib.hid hxe
      obtain ⟨z0, z1, z2, z3, z4⟩ := hbx
      obtain ⟨⟨e0, e1, e2, e3, e4, e5, e6, e7, e8, e9⟩, g0, g1, g2, g3, g4, g5, g6, g7, g8, g9⟩ := hxe
      simp only at z0 z1 z2 z3 z4 e0 e1 e2 e3 e4 e5 e6 e7 e8 e9
      have hbl := cell_lt e0
      have hBl := cell_lt z0
      go_upto_if 15 with fail
      go_cut [4, 5] (fun _ _ wx => BoxAt wx B ⟨4, zv⟩ ∧ EndsAt wx b ⟨L, ⟨ho, hv⟩⟩ ∧ Below b w0 wx)
      case first =>
        obtain ⟨c, hc⟩ : ∃ c, V4.cmp zv lv = c := ⟨_, rfl⟩
        have HC := Lib.hid hc
        have HCm := Lib.hid (fun w h => cmpQ_as zv lv c HC.out w h hz3 hl3)
        clear hc
        by_cases t0 : lo = 0
        · have q0 : (lo == 0) = true := by simpa using t0
          have HT : Hid (lo = 0) := t0
          have HLn : Hid (L = ⟨maxOp 4, zv⟩) := by show _ = _; rw [← HL.out]; exact lo_yes (show (3 : Int) ≤ 4 by decide) (.inl HT.out)
          clear t0
          go_wp2_with fail
          refine region_still_tail 7 (by kernel_rfl) (by kernel_rfl) ?_
          simp only [List.take_succ_cons, List.take_zero, List.drop_succ_cons, List.drop_zero]
          repeat still_step
          refine wpStill_nil ?_
          go_wp2_with fail
          refine (HCm.out _ (HE.out _ hwc.drew)).mono ?_
          rintro e w5 ⟨rfl, hb5⟩
          have hbx5 := HBX.out.below (((Below.refl _ _).drew).trans hb5) hBl
          have hxe5 := HXE.out.below (((Below.refl _ _).drew).trans hb5) hbl
          have hw5 := hwc.drew.trans (hb5.mono (Nat.le_of_lt hbl))
          clear z0 z1 z2 z3 z4 e0 e1 e2 e3 e4 e5 e6 e7 e8 e9 g0 g1 g2 g3 g4 g5 g6 g7 g8 g9 hbl hBl hb5
          have HBX5 := Lib.hid hbx5
          have HXE5 := Lib.hid hxe5
          obtain ⟨z0, z1, z2, z3, z4⟩ := hbx5
          obtain ⟨⟨e0, e1, e2, e3, e4, e5, e6, e7, e8, e9⟩, g0, g1, g2, g3, g4, g5, g6, g7, g8, g9⟩ := hxe5
          simp only at z0 z1 z2 z3 z4 e0 e1 e2 e3 e4 e5 e6 e7 e8 e9
          go_wp2_with fail
          go_meet
          case rel => exact ⟨((((HBX5.out.far hbB _ _).far hbB _ _).far hbB _ _).far hbB _ _).far hbB _ _, by rw [HLn.out]; exact HXE5.out.set_lo ⟨maxOp 4, zv⟩, ((((hw5.setCell (Nat.le_refl _) _).setCell (Nat.le_refl _) _).setCell (Nat.le_refl _) _).setCell (Nat.le_refl _) _).setCell (Nat.le_refl _) _⟩
        have q0 : (lo == 0) = false := by simpa using t0
        by_cases t1 : 0 < c
        · have q1 : decide (0 < c) = true := decide_eq_true t1
          have HT : Hid (0 < c) := t1
          have HLn : Hid (L = ⟨maxOp 4, zv⟩) := by show _ = _; rw [← HL.out]; exact lo_yes (show (3 : Int) ≤ 4 by decide) (.inr (.inl (by rw [HC.out]; exact HT.out)))
          clear t1
          go_wp2_with fail
          refine region_still_tail 7 (by kernel_rfl) (by kernel_rfl) ?_
          simp only [List.take_succ_cons, List.take_zero, List.drop_succ_cons, List.drop_zero]
          repeat still_step
          refine wpStill_nil ?_
          go_wp2_with fail
          refine (HCm.out _ (HE.out _ hwc.drew)).mono ?_
          rintro e w5 ⟨rfl, hb5⟩
          have hbx5 := HBX.out.below (((Below.refl _ _).drew).trans hb5) hBl
          have hxe5 := HXE.out.below (((Below.refl _ _).drew).trans hb5) hbl
          have hw5 := hwc.drew.trans (hb5.mono (Nat.le_of_lt hbl))
          clear z0 z1 z2 z3 z4 e0 e1 e2 e3 e4 e5 e6 e7 e8 e9 g0 g1 g2 g3 g4 g5 g6 g7 g8 g9 hbl hBl hb5
          have HBX5 := Lib.hid hbx5
          have HXE5 := Lib.hid hxe5
          obtain ⟨z0, z1, z2, z3, z4⟩ := hbx5
          obtain ⟨⟨e0, e1, e2, e3, e4, e5, e6, e7, e8, e9⟩, g0, g1, g2, g3, g4, g5, g6, g7, g8, g9⟩ := hxe5
          simp only at z0 z1 z2 z3 z4 e0 e1 e2 e3 e4 e5 e6 e7 e8 e9
          go_wp2_with fail
          go_meet
          case rel => exact ⟨((((HBX5.out.far hbB _ _).far hbB _ _).far hbB _ _).far hbB _ _).far hbB _ _, by rw [HLn.out]; exact HXE5.out.set_lo ⟨maxOp 4, zv⟩, ((((hw5.setCell (Nat.le_refl _) _).setCell (Nat.le_refl _) _).setCell (Nat.le_refl _) _).setCell (Nat.le_refl _) _).setCell (Nat.le_refl _) _⟩
        have q1 : decide (0 < c) = false := decide_eq_false t1
        by_cases t2 : c = 0
        case neg =>
          have q2 : (c == 0) = false := by simpa using t2
          have HT : Hid (lo ≠ 0 ∧ ¬ 0 < c ∧ c ≠ 0) := ⟨t0, t1, t2⟩
          have HLn : Hid (L = ⟨lo, lv⟩) := by show _ = _; rw [← HL.out]; refine lo_no ?_; rintro ⟨_, h | h | ⟨h, _⟩⟩; all_goals first | exact HT.out.1 h | exact HT.out.2.1 (by rw [HC.out] at h; exact h) | exact HT.out.2.2 (by rw [HC.out] at h; exact h)
          clear t0 t1 t2
          go_wp2_with fail
          refine region_still_tail 7 (by kernel_rfl) (by kernel_rfl) ?_
          simp only [List.take_succ_cons, List.take_zero, List.drop_succ_cons, List.drop_zero]
          repeat still_step
          refine wpStill_nil ?_
          go_wp2_with fail
          refine (HCm.out _ (HE.out _ hwc.drew)).mono ?_
          rintro e w5 ⟨rfl, hb5⟩
          have hbx5 := HBX.out.below (((Below.refl _ _).drew).trans hb5) hBl
          have hxe5 := HXE.out.below (((Below.refl _ _).drew).trans hb5) hbl
          have hw5 := hwc.drew.trans (hb5.mono (Nat.le_of_lt hbl))
          clear z0 z1 z2 z3 z4 e0 e1 e2 e3 e4 e5 e6 e7 e8 e9 g0 g1 g2 g3 g4 g5 g6 g7 g8 g9 hbl hBl hb5
          have HBX5 := Lib.hid hbx5
          have HXE5 := Lib.hid hxe5
          obtain ⟨z0, z1, z2, z3, z4⟩ := hbx5
          obtain ⟨⟨e0, e1, e2, e3, e4, e5, e6, e7, e8, e9⟩, g0, g1, g2, g3, g4, g5, g6, g7, g8, g9⟩ := hxe5
          simp only at z0 z1 z2 z3 z4 e0 e1 e2 e3 e4 e5 e6 e7 e8 e9
          go_wp2_with fail
          go_meet
          case rel => exact ⟨HBX5.out, by rw [HLn.out]; exact HXE5.out, hw5⟩
        have q2 : (c == 0) = true := by simpa using t2
        have HT : Hid (lo ≠ 0 ∧ ¬ 0 < c) := ⟨t0, t1⟩
        have HLn : Hid (L = ⟨lo, lv⟩) := by show _ = _; rw [← HL.out]; refine lo_no ?_; rintro ⟨_, h | h | ⟨_, h, _⟩⟩; all_goals first | exact HT.out.1 h | exact HT.out.2 (by rw [HC.out] at h; exact h) | exact absurd h (show ¬ maxOp 4 = 5 by decide)
        clear t0 t1
        go_wp2_with fail
        refine region_still_tail 7 (by kernel_rfl) (by kernel_rfl) ?_
        simp only [List.take_succ_cons, List.take_zero, List.drop_succ_cons, List.drop_zero]
        repeat still_step
        refine wpStill_nil ?_
        go_wp2_with fail
        refine (HCm.out _ (HE.out _ hwc.drew)).mono ?_
        rintro e w5 ⟨rfl, hb5⟩
        have hbx5 := HBX.out.below (((Below.refl _ _).drew).trans hb5) hBl
        have hxe5 := HXE.out.below (((Below.refl _ _).drew).trans hb5) hbl
        have hw5 := hwc.drew.trans (hb5.mono (Nat.le_of_lt hbl))
        clear z0 z1 z2 z3 z4 e0 e1 e2 e3 e4 e5 e6 e7 e8 e9 g0 g1 g2 g3 g4 g5 g6 g7 g8 g9 hbl hBl hb5
        have HBX5 := Lib.hid hbx5
        have HXE5 := Lib.hid hxe5
        obtain ⟨z0, z1, z2, z3, z4⟩ := hbx5
        obtain ⟨⟨e0, e1, e2, e3, e4, e5, e6, e7, e8, e9⟩, g0, g1, g2, g3, g4, g5, g6, g7, g8, g9⟩ := hxe5
        simp only at z0 z1 z2 z3 z4 e0 e1 e2 e3 e4 e5 e6 e7 e8 e9
        go_wp2_with fail
        go_meet
        case rel => exact ⟨HBX5.out, by rw [HLn.out]; exact HXE5.out, hw5⟩
      case rest =>
        clear hwc HBX HXE z0 z1 z2 z3 z4 e0 e1 e2 e3 e4 e5 e6 e7 e8 e9 g0 g1 g2 g3 g4 g5 g6 g7 g8 g9 hbl hBl
        obtain ⟨hbx, hxe, hwc⟩ := hcut
        have HBX := Lib.hid hbx
        have HXE := Lib.hid hxe
        obtain ⟨z0, z1, z2, z3, z4⟩ := hbx
        obtain ⟨⟨e0, e1, e2, e3, e4, e5, e6, e7, e8, e9⟩, g0, g1, g2, g3, g4, g5, g6, g7, g8, g9⟩ := hxe
        simp only at z0 z1 z2 z3 z4 e0 e1 e2 e3 e4 e5 e6 e7 e8 e9
        have hbl := cell_lt e0
        have hBl := cell_lt z0
        go_wp2_with fail
        go_end0
        exact ⟨rfl, by show EndsAt _ b ⟨stepLo ⟨lo, lv⟩ y.fix, stepHi ⟨ho, hv⟩ y.fix⟩; rw [HZ.out, HL.out, hi_no (fun h => absurd h.1 (show ¬ (4 : Int) ≤ 3 by decide))]; exact HXE.out, hwc⟩
    · skip
      have HBX := Lib.hid hbx
      have HXE := Lib.hid hxe
      obtain ⟨z0, z1, z2, z3, z4⟩ := hbx
      obtain ⟨⟨e0, e1, e2, e3, e4, e5, e6, e7, e8, e9⟩, g0, g1, g2, g3, g4, g5, g6, g7, g8, g9⟩ := hxe
      simp only at z0 z1 z2 z3 z4 e0 e1 e2 e3 e4 e5 e6 e7 e8 e9
      have hbl := cell_lt e0
      have hBl := cell_lt z0
      go_upto_if 15 with fail
      go_cut [4, 5] (fun _ _ wx => BoxAt wx B ⟨5, zv⟩ ∧ EndsAt wx b ⟨L, ⟨ho, hv⟩⟩ ∧ Below b w0 wx)
      case first =>
        obtain ⟨c, hc⟩ : ∃ c, V4.cmp zv lv = c := ⟨_, rfl⟩
        have HC := Lib.hid hc
        have HCm := Lib.hid (fun w h => cmpQ_as zv lv c HC.out w h hz3 hl3)
        clear hc
        by_cases t0 : lo = 0
        · have q0 : (lo == 0) = true := by simpa using t0
          have HT : Hid (lo = 0) := t0
          have HLn : Hid (L = ⟨maxOp 5, zv⟩) := by show _ = _; rw [← HL.out]; exact lo_yes (show (3 : Int) ≤ 5 by decide) (.inl HT.out)
          clear t0
          go_wp2_with fail
          refine region_still_tail 7 (by kernel_rfl) (by kernel_rfl) ?_
          simp only [List.take_succ_cons, List.take_zero, List.drop_succ_cons, List.drop_zero]
          repeat still_step
          refine wpStill_nil ?_
          go_wp2_with fail
          refine (HCm.out _ (HE.out _ hwc.drew)).mono ?_
          rintro e w5 ⟨rfl, hb5⟩
          have hbx5 := HBX.out.below (((Below.refl _ _).drew).trans hb5) hBl
          have hxe5 := HXE.out.below (((Below.refl _ _).drew).trans hb5) hbl
          have hw5 := hwc.drew.trans (hb5.mono (Nat.le_of_lt hbl))
          clear z0 z1 z2 z3 z4 e0 e1 e2 e3 e4 e5 e6 e7 e8 e9 g0 g1 g2 g3 g4 g5 g6 g7 g8 g9 hbl hBl hb5
          have HBX5 := Lib.hid hbx5
          have HXE5 := Lib.hid hxe5
          obtain ⟨z0, z1, z2, z3, z4⟩ := hbx5
          obtain ⟨⟨e0, e1, e2, e3, e4, e5, e6, e7, e8, e9⟩, g0, g1, g2, g3, g4, g5, g6, g7, g8, g9⟩ := hxe5
          simp only at z0 z1 z2 z3 z4 e0 e1 e2 e3 e4 e5 e6 e7 e8 e9
          go_wp2_with fail
          go_meet
          case rel => exact ⟨((((HBX5.out.far hbB _ _).far hbB _ _).far hbB _ _).far hbB _ _).far hbB _ _, by rw [HLn.out]; exact HXE5.out.set_lo ⟨maxOp 5, zv⟩, ((((hw5.setCell (Nat.le_refl _) _).setCell (Nat.le_refl _) _).setCell (Nat.le_refl _) _).setCell (Nat.le_refl _) _).setCell (Nat.le_refl _) _⟩
        have q0 : (lo == 0) = false := by simpa using t0
        by_cases t1 : 0 < c
        · have q1 : decide (0 < c) = true := decide_eq_true t1
          have HT : Hid (0 < c) := t1
          have HLn : Hid (L = ⟨maxOp 5, zv⟩) := by show _ = _; rw [← HL.out]; exact lo_yes (show (3 : Int) ≤ 5 by decide) (.inr (.inl (by rw [HC.out]; exact HT.out)))
          clear t1
          go_wp2_with fail
          refine region_still_tail 7 (by kernel_rfl) (by kernel_rfl) ?_
          simp only [List.take_succ_cons, List.take_zero, List.drop_succ_cons, List.drop_zero]
          repeat still_step
          refine wpStill_nil ?_
          go_wp2_with fail
          refine (HCm.out _ (HE.out _ hwc.drew)).mono ?_
          rintro e w5 ⟨rfl, hb5⟩
          have hbx5 := HBX.out.below (((Below.refl _ _).drew).trans hb5) hBl
          have hxe5 := HXE.out.below (((Below.refl _ _).drew).trans hb5) hbl
          have hw5 := hwc.drew.trans (hb5.mono (Nat.le_of_lt hbl))
          clear z0 z1 z2 z3 z4 e0 e1 e2 e3 e4 e5 e6 e7 e8 e9 g0 g1 g2 g3 g4 g5 g6 g7 g8 g9 hbl hBl hb5
          have HBX5 := Lib.hid hbx5
          have HXE5 := Lib.hid hxe5
          obtain ⟨z0, z1, z2, z3, z4⟩ := hbx5
          obtain ⟨⟨e0, e1, e2, e3, e4, e5, e6, e7, e8, e9⟩, g0, g1, g2, g3, g4, g5, g6, g7, g8, g9⟩ := hxe5
          simp only at z0 z1 z2 z3 z4 e0 e1 e2 e3 e4 e5 e6 e7 e8 e9
          go_wp2_with fail
          go_meet
          case rel => exact ⟨((((HBX5.out.far hbB _ _).far hbB _ _).far hbB _ _).far hbB _ _).far hbB _ _, by rw [HLn.out]; exact HXE5.out.set_lo ⟨maxOp 5, zv⟩, ((((hw5.setCell (Nat.le_refl _) _).setCell (Nat.le_refl _) _).setCell (Nat.le_refl _) _).setCell (Nat.le_refl _) _).setCell (Nat.le_refl _) _⟩
        have q1 : decide (0 < c) = false := decide_eq_false t1
        by_cases t2 : c = 0
        case neg =>
          have q2 : (c == 0) = false := by simpa using t2
          have HT : Hid (lo ≠ 0 ∧ ¬ 0 < c ∧ c ≠ 0) := ⟨t0, t1, t2⟩
          have HLn : Hid (L = ⟨lo, lv⟩) := by show _ = _; rw [← HL.out]; refine lo_no ?_; rintro ⟨_, h | h | ⟨h, _⟩⟩; all_goals first | exact HT.out.1 h | exact HT.out.2.1 (by rw [HC.out] at h; exact h) | exact HT.out.2.2 (by rw [HC.out] at h; exact h)
          clear t0 t1 t2
          go_wp2_with fail
          refine region_still_tail 7 (by kernel_rfl) (by kernel_rfl) ?_
          simp only [List.take_succ_cons, List.take_zero, List.drop_succ_cons, List.drop_zero]
          repeat still_step
          refine wpStill_nil ?_
          go_wp2_with fail
          refine (HCm.out _ (HE.out _ hwc.drew)).mono ?_
          rintro e w5 ⟨rfl, hb5⟩
          have hbx5 := HBX.out.below (((Below.refl _ _).drew).trans hb5) hBl
          have hxe5 := HXE.out.below (((Below.refl _ _).drew).trans hb5) hbl
          have hw5 := hwc.drew.trans (hb5.mono (Nat.le_of_lt hbl))
          clear z0 z1 z2 z3 z4 e0 e1 e2 e3 e4 e5 e6 e7 e8 e9 g0 g1 g2 g3 g4 g5 g6 g7 g8 g9 hbl hBl hb5
          have HBX5 := Lib.hid hbx5
          have HXE5 := Lib.hid hxe5
          obtain ⟨z0, z1, z2, z3, z4⟩ := hbx5
          obtain ⟨⟨e0, e1, e2, e3, e4, e5, e6, e7, e8, e9⟩, g0, g1, g2, g3, g4, g5, g6, g7, g8, g9⟩ := hxe5
          simp only at z0 z1 z2 z3 z4 e0 e1 e2 e3 e4 e5 e6 e7 e8 e9
          go_wp2_with fail
          go_meet
          case rel => exact ⟨HBX5.out, by rw [HLn.out]; exact HXE5.out, hw5⟩
        have q2 : (c == 0) = true := by simpa using t2
        by_cases t3 : lo = 4
        · have q3 : (lo == 4) = true := by simpa using t3
          have HT : Hid (c = 0 ∧ lo = 4) := ⟨t2, t3⟩
          have HLn : Hid (L = ⟨maxOp 5, zv⟩) := by show _ = _; rw [← HL.out]; exact lo_yes (show (3 : Int) ≤ 5 by decide) (.inr (.inr ⟨by rw [HC.out]; exact HT.out.1, rfl, HT.out.2⟩))
          clear t2 t3
          go_wp2_with fail
          refine region_still_tail 7 (by kernel_rfl) (by kernel_rfl) ?_
          simp only [List.take_succ_cons, List.take_zero, List.drop_succ_cons, List.drop_zero]
          repeat still_step
          refine wpStill_nil ?_
          go_wp2_with fail
          refine (HCm.out _ (HE.out _ hwc.drew)).mono ?_
          rintro e w5 ⟨rfl, hb5⟩
          have hbx5 := HBX.out.below (((Below.refl _ _).drew).trans hb5) hBl
          have hxe5 := HXE.out.below (((Below.refl _ _).drew).trans hb5) hbl
          have hw5 := hwc.drew.trans (hb5.mono (Nat.le_of_lt hbl))
          clear z0 z1 z2 z3 z4 e0 e1 e2 e3 e4 e5 e6 e7 e8 e9 g0 g1 g2 g3 g4 g5 g6 g7 g8 g9 hbl hBl hb5
          have HBX5 := Lib.hid hbx5
          have HXE5 := Lib.hid hxe5
          obtain ⟨z0, z1, z2, z3, z4⟩ := hbx5
          obtain ⟨⟨e0, e1, e2, e3, e4, e5, e6, e7, e8, e9⟩, g0, g1, g2, g3, g4, g5, g6, g7, g8, g9⟩ := hxe5
          simp only at z0 z1 z2 z3 z4 e0 e1 e2 e3 e4 e5 e6 e7 e8 e9
          go_wp2_with fail
          go_meet
          case rel => exact ⟨((((HBX5.out.far hbB _ _).far hbB _ _).far hbB _ _).far hbB _ _).far hbB _ _, by rw [HLn.out]; exact HXE5.out.set_lo ⟨maxOp 5, zv⟩, ((((hw5.setCell (Nat.le_refl _) _).setCell (Nat.le_refl _) _).setCell (Nat.le_refl _) _).setCell (Nat.le_refl _) _).setCell (Nat.le_refl _) _⟩
        have q3 : (lo == 4) = false := by simpa using t3
        have HT : Hid (lo ≠ 0 ∧ ¬ 0 < c ∧ lo ≠ 4) := ⟨t0, t1, t3⟩
        have HLn : Hid (L = ⟨lo, lv⟩) := by show _ = _; rw [← HL.out]; refine lo_no ?_; rintro ⟨_, h | h | ⟨_, _, h⟩⟩; all_goals first | exact HT.out.1 h | exact HT.out.2.1 (by rw [HC.out] at h; exact h) | exact HT.out.2.2 h
        clear t0 t1 t3
        go_wp2_with fail
        refine region_still_tail 7 (by kernel_rfl) (by kernel_rfl) ?_
        simp only [List.take_succ_cons, List.take_zero, List.drop_succ_cons, List.drop_zero]
        repeat still_step
        refine wpStill_nil ?_
        go_wp2_with fail
        refine (HCm.out _ (HE.out _ hwc.drew)).mono ?_
        rintro e w5 ⟨rfl, hb5⟩
        have hbx5 := HBX.out.below (((Below.refl _ _).drew).trans hb5) hBl
        have hxe5 := HXE.out.below (((Below.refl _ _).drew).trans hb5) hbl
        have hw5 := hwc.drew.trans (hb5.mono (Nat.le_of_lt hbl))
        clear z0 z1 z2 z3 z4 e0 e1 e2 e3 e4 e5 e6 e7 e8 e9 g0 g1 g2 g3 g4 g5 g6 g7 g8 g9 hbl hBl hb5
        have HBX5 := Lib.hid hbx5
        have HXE5 := Lib.hid hxe5
        obtain ⟨z0, z1, z2, z3, z4⟩ := hbx5
        obtain ⟨⟨e0, e1, e2, e3, e4, e5, e6, e7, e8, e9⟩, g0, g1, g2, g3, g4, g5, g6, g7, g8, g9⟩ := hxe5
        simp only at z0 z1 z2 z3 z4 e0 e1 e2 e3 e4 e5 e6 e7 e8 e9
        go_wp2_with fail
        go_meet
        case rel => exact ⟨HBX5.out, by rw [HLn.out]; exact HXE5.out, hw5⟩
      case rest =>
        clear hwc HBX HXE z0 z1 z2 z3 z4 e0 e1 e2 e3 e4 e5 e6 e7 e8 e9 g0 g1 g2 g3 g4 g5 g6 g7 g8 g9 hbl hBl
        obtain ⟨hbx, hxe, hwc⟩ := hcut
        have HBX := Lib.hid hbx
        have HXE := Lib.hid hxe
        obtain ⟨z0, z1, z2, z3, z4⟩ := hbx
        obtain ⟨⟨e0, e1, e2, e3, e4, e5, e6, e7, e8, e9⟩, g0, g1, g2, g3, g4, g5, g6, g7, g8, g9⟩ := hxe
        simp only at z0 z1 z2 z3 z4 e0 e1 e2 e3 e4 e5 e6 e7 e8 e9
        have hbl := cell_lt e0
        have hBl := cell_lt z0
        go_wp2_with fail
        go_end0
        exact ⟨rfl, by show EndsAt _ b ⟨stepLo ⟨lo, lv⟩ y.fix, stepHi ⟨ho, hv⟩ y.fix⟩; rw [HZ.out, HL.out, hi_no (fun h => absurd h.1 (show ¬ (5 : Int) ≤ 3 by decide))]; exact HXE.out, hwc⟩
end Go.Proofs.YthojbknakmjndaaGreatDoor
