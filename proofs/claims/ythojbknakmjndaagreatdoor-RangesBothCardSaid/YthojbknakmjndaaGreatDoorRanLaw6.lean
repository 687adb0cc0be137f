/- RangesMeets: the walk. -/
import Derived.Test.YthojbknakmjndaaGreatDoorRanLaw5
import Derived.Test.YthojbknakmjndaaGreatDoorRanRef3
namespace Go.Proofs.YthojbknakmjndaaGreatDoor
open Go.RowKit
theorem keepB4 {P : Program} {f : FuncId} {args : Array Value} {v : Value} (w0 w : World) (b : Nat) (x0 x1 x2 x3 : Value)
    (h : w.cell? ⟨b, 0, none⟩ = some x0 ∧ w.cell? ⟨b, 1, none⟩ = some x1 ∧ w.cell? ⟨b, 2, none⟩ = some x2 ∧ w.cell? ⟨b, 3, none⟩ = some x3 ∧ Below w0.heap.size w0 w)
    (hc : Calls P f args w fun e w' => e = .returned v ∧ Below w.heap.size w w') :
    Calls P f args w fun e w' => e = .returned v ∧ Below w.heap.size w w' ∧ (w'.cell? ⟨b, 0, none⟩ = some x0 ∧ w'.cell? ⟨b, 1, none⟩ = some x1 ∧ w'.cell? ⟨b, 2, none⟩ = some x2 ∧ w'.cell? ⟨b, 3, none⟩ = some x3 ∧ Below w0.heap.size w0 w') := by
  obtain ⟨h0, h1, h2, h3, hz⟩ := h
  exact hc.mono fun _ _ ⟨he, hb⟩ => ⟨he, hb, (hb.cell (p := ⟨b, 0, none⟩) (cell_lt h0)).trans h0, (hb.cell (p := ⟨b, 1, none⟩) (cell_lt h1)).trans h1, (hb.cell (p := ⟨b, 2, none⟩) (cell_lt h2)).trans h2, (hb.cell (p := ⟨b, 3, none⟩) (cell_lt h3)).trans h3, below_then hz hb⟩
theorem keepR4 {P : Program} {f : FuncId} {args : Array Value} {bs : List Bnd} (w0 w : World) (b : Nat) (x0 x1 x2 x3 : Value)
    (h : w.cell? ⟨b, 0, none⟩ = some x0 ∧ w.cell? ⟨b, 1, none⟩ = some x1 ∧ w.cell? ⟨b, 2, none⟩ = some x2 ∧ w.cell? ⟨b, 3, none⟩ = some x3 ∧ Below w0.heap.size w0 w)
    (hc : Calls P f args w fun e w' => ∃ x, e = .returned x ∧ Bnds w' x bs ∧ (∃ a cap, x = .slice a bs.length cap) ∧ Below w.heap.size w w') :
    Calls P f args w fun e w' => ∃ a cap, e = .returned (.slice a bs.length cap) ∧ Bnds w' (.slice a bs.length cap) bs ∧ Below w.heap.size w w' ∧ (w'.cell? ⟨b, 0, none⟩ = some x0 ∧ w'.cell? ⟨b, 1, none⟩ = some x1 ∧ w'.cell? ⟨b, 2, none⟩ = some x2 ∧ w'.cell? ⟨b, 3, none⟩ = some x3 ∧ Below w0.heap.size w0 w') := by
  obtain ⟨h0, h1, h2, h3, hz⟩ := h
  exact hc.mono fun _ _ ⟨x, he, hx, ⟨a, cap, hl⟩, hb⟩ => ⟨a, cap, by rw [he, hl], by rw [← hl]; exact hx, hb, (hb.cell (p := ⟨b, 0, none⟩) (cell_lt h0)).trans h0, (hb.cell (p := ⟨b, 1, none⟩) (cell_lt h1)).trans h1, (hb.cell (p := ⟨b, 2, none⟩) (cell_lt h2)).trans h2, (hb.cell (p := ⟨b, 3, none⟩) (cell_lt h3)).trans h3, below_then hz hb⟩
set_option maxRecDepth 100000 in
set_option maxHeartbeats 8000000 in
theorem rangesMeets_walk (x : V4) (v : Value) (bs : List Bnd) (w : World) (hE : Env w) (hv : Bnds w v bs) (hlen : ∃ a cap, v = .slice a bs.length cap) (hx : x.p.size ≤ 9223372036854775807) :
    Calls Tryz.prog 5 #[.agg #[.int .i64 x.a, .int .i64 x.b, .int .i64 x.c, .string x.p], v] w fun e w' => e = .returned (.bool true) ∧ Below w.heap.size w w' := by
  have HE := Lib.hid hE
  clear hE
  obtain ⟨va, vcap, rfl⟩ := hlen
  have hW0 := (Below.refl w.heap.size w).alloc (Nat.le_refl _) (.cells #[.int .i64 x.a, .int .i64 x.b, .int .i64 x.c, .string x.p] 40)
  have HV := Lib.hid hv
  have HV1 := Lib.hid (HV.out.below hW0 (Nat.le_refl _))
  obtain ⟨r, hr⟩ : ∃ r, lightB [bs] = r := ⟨_, rfl⟩
  have HR := Lib.hid hr
  clear hr hv
  obtain ⟨xa, xb, xc, xp⟩ := x
  simp only at hx hW0 HV1 ⊢
  have hW1 := hW0.alloc hW0.size (.cells #[.slice va bs.length vcap] 23)
  have k0 : ((w.alloc (.cells #[.int .i64 xa, .int .i64 xb, .int .i64 xc, .string xp] 40)).alloc (.cells #[.slice va bs.length vcap] 23)).cell? ⟨w.heap.size, 0, none⟩ = some (.int .i64 xa) := by go_simp
  have k1 : ((w.alloc (.cells #[.int .i64 xa, .int .i64 xb, .int .i64 xc, .string xp] 40)).alloc (.cells #[.slice va bs.length vcap] 23)).cell? ⟨w.heap.size, 1, none⟩ = some (.int .i64 xb) := by go_simp
  have k2 : ((w.alloc (.cells #[.int .i64 xa, .int .i64 xb, .int .i64 xc, .string xp] 40)).alloc (.cells #[.slice va bs.length vcap] 23)).cell? ⟨w.heap.size, 2, none⟩ = some (.int .i64 xc) := by go_simp
  have k3 : ((w.alloc (.cells #[.int .i64 xa, .int .i64 xb, .int .i64 xc, .string xp] 40)).alloc (.cells #[.slice va bs.length vcap] 23)).cell? ⟨w.heap.size, 3, none⟩ = some (.string xp) := by go_simp
  cases r
  · go_enter Tryz.func5, Tryz.ntmps5
    go_wp2_with fail
    refine (light_one _ bs false HR.out _ _ _ _ _ _ (by simp) rfl rfl HV1.out ⟨_, _, rfl⟩).mono ?_
    rintro e w1 ⟨rfl, rfl⟩
    go_wp2_with fail
    refine (awake_any _ (HE.out.below hW1)).mono ?_
    rintro e w9 ⟨rfl, hb9⟩
    go_wp2_with fail
    go_ret
    exact ⟨rfl, below_then hW1 hb9⟩
  by_cases h100 : 100 < xp.size
  · have q : decide ((100 : Int) < (xp.size : Int)) = true := by simp; omega
    have q' : decide (100 < xp.size) = true := decide_eq_true h100
    clear h100
    go_enter Tryz.func5, Tryz.ntmps5
    go_wp2_with fail
    refine (light_one _ bs true HR.out _ _ _ _ _ _ (by simp) rfl rfl HV1.out ⟨_, _, rfl⟩).mono ?_
    rintro e w1 ⟨rfl, rfl⟩
    go_wp2_with fail
    refine (awake_any _ (HE.out.below hW1)).mono ?_
    rintro e w9 ⟨rfl, hb9⟩
    go_wp2_with fail
    go_ret
    exact ⟨rfl, below_then hW1 hb9⟩
  have q : decide ((100 : Int) < (xp.size : Int)) = false := by simp; omega
  have q' : decide (100 < xp.size) = false := decide_eq_false h100
  have hsz := lightB_sz HR.out
  have hbs := hsz.2 bs (by simp)
  have hp3 : ∀ b ∈ bs, b.v.p.size ≤ 300 := fun b hb => by have := hbs.2 b hb; omega
  have hn : bs.length ≤ 1000 := by omega
  have hx3 : xp.size ≤ 300 := by omega
  obtain ⟨m, hm⟩ : ∃ m, meetsR ⟨xa, xb, xc, xp⟩ bs = m := ⟨_, rfl⟩
  obtain ⟨N, hN⟩ : ∃ N, near ⟨xa, xb, xc, xp⟩ = N := ⟨_, rfl⟩
  have hNl : N.length ≤ 100000 := by rw [← hN]; have := near_le ⟨xa, xb, xc, xp⟩; omega
  have M1 := fun w (hv : Bnds w (.slice va bs.length vcap) bs) hE => meets_any ⟨xa, xb, xc, xp⟩ _ bs w hv ⟨_, _, rfl⟩ hE hx3 hp3 hn
  have M2 := fun w (hv : Bnds w (.slice va bs.length vcap) bs) => rmeets_any ⟨xa, xb, xc, xp⟩ _ bs w hv ⟨_, _, rfl⟩ hx3 hp3 hn
  have N1 := fun w hE => near_any ⟨xa, xb, xc, xp⟩ w hE (by simp only; omega)
  have N2 := fun w => rnear_any ⟨xa, xb, xc, xp⟩ w (by simp only; omega)
  rw [hm] at M1 M2
  rw [hN] at N1 N2
  have HM1 := Lib.hid M1
  have HM2 := Lib.hid M2
  have HN1 := Lib.hid N1
  have HN2 := Lib.hid N2
  clear h100 hsz hbs hp3 hm hN M1 M2 N1 N2
  go_enter Tryz.func5, Tryz.ntmps5
  go_wp2_with fail
  refine (light_one _ bs true HR.out _ _ _ _ _ _ (by simp) rfl rfl HV1.out ⟨_, _, rfl⟩).mono ?_
  rintro e w1 ⟨rfl, rfl⟩
  go_wp2_with fail
  generalize ((w.alloc (.cells #[.int .i64 xa, .int .i64 xb, .int .i64 xc, .string xp] 40)).alloc (.cells #[.slice va bs.length vcap] 23)) = W at hW1 k0 k1 k2 k3 ⊢
  have hd0 := hW1.drew
  clear hW0 HV1 hx
  go_region_held3 (fun w' => w'.cell? ⟨w.heap.size, 0, none⟩ = some (.int .i64 xa) ∧ w'.cell? ⟨w.heap.size, 1, none⟩ = some (.int .i64 xb) ∧ w'.cell? ⟨w.heap.size, 2, none⟩ = some (.int .i64 xc) ∧ w'.cell? ⟨w.heap.size, 3, none⟩ = some (.string xp) ∧ Below w.heap.size w w') (go_keep)
    (first
      | (go_at_call 18; refine (keepB4 w _ w.heap.size _ _ _ _ (by assumption) (HM1.out _ (HV.out.below (And.right (And.right (And.right (And.right (by assumption))))) (Nat.le_refl _)) (HE.out.below (And.right (And.right (And.right (And.right (by assumption)))))))).mono ?_; rintro e w3 ⟨rfl, hb3, hk3⟩)
      | (go_at_call 19; refine (keepB4 w _ w.heap.size _ _ _ _ (by assumption) (HM2.out _ (HV.out.below (And.right (And.right (And.right (And.right (by assumption))))) (Nat.le_refl _)))).mono ?_; rintro e w4 ⟨rfl, hb4, hk4⟩)
      | (go_at_call 20; refine (keepR4 w _ w.heap.size _ _ _ _ (by assumption) (HN1.out _ (HE.out.below (And.right (And.right (And.right (And.right (by assumption)))))))).mono ?_; rintro e w5 ⟨ya, ycap, rfl, hy, hb5, hk5⟩)
      | (go_at_call 21; refine (keepR4 w _ w.heap.size _ _ _ _ (by assumption) (HN2.out _)).mono ?_; rintro e w6 ⟨za, zcap, rfl, hz, hb6, hk6⟩)
      | (go_at_call 12; refine (keepB4 w _ w.heap.size _ _ _ _ (by assumption) (same_self _ _ N _ (hy.below hb6 (Nat.le_refl _)) ⟨_, _, rfl⟩ hz ⟨_, _, rfl⟩ hNl)).mono ?_; rintro e w7 ⟨rfl, hb7, hk7⟩)
      | (go_at_call 9; refine (keepB4 w _ w.heap.size _ _ _ _ (by assumption) (awake_any _ (HE.out.below (And.right (And.right (And.right (And.right (by assumption)))))))).mono ?_; rintro e w8 ⟨rfl, hb8, hk8⟩))
  all_goals
    go_wp2_with fail
    go_ret
    exact ⟨rfl, hk8.2.2.2.2⟩
end Go.Proofs.YthojbknakmjndaaGreatDoor
