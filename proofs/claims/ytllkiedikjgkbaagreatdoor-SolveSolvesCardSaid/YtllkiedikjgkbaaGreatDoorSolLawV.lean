/- SolveSolves: the solver's answer is the reference's. The law returns true. -/
import Derived.Test.YtllkiedikjgkbaaGreatDoorSolPre
import Derived.Test.YtllkiedikjgkbaaGreatDoorRefsT
namespace Go.Proofs.YtllkiedikjgkbaaGreatDoor
open Go.RowKit Go.Maps
set_option maxRecDepth 100000 in
set_option maxHeartbeats 4000000 in
theorem solveSolves_any (pk lk nv : Value) (ps : List DPack) (lock : List Pik) (needs : List (Want × Value)) (bud : Int) (w : World)
  (hp : Packs w pk ps) (hl : Piks w lk lock) (hn : Wants w nv needs) (h0 : -9223372036854775808 ≤ bud) (h1 : bud ≤ 9223372036854775807) (hE : Env w) :
  Calls Tryz.prog 6 #[.agg #[pk, lk, nv], .int .i64 bud] w fun e w' => e = .returned (.bool true) ∧ Below w.heap.size w w' := by
 have hx1 := Below.refl (w.heap.size + 1) (w.alloc (.cells #[pk, lk, nv] 26))
 have hW1 := below_first hx1
 have HSm := Lib.hid (small_any pk lk nv ps lock needs _ (hp.below hW1 (Nat.le_refl _)) (hl.below hW1 (Nat.le_refl _)) (hn.below hW1 (Nat.le_refl _)))
 have c0 := box_cells hx1 0
 have c1 := box_cells hx1 1
 have c2 := box_cells hx1 2
 simp only [List.getElem?_toArray, List.getElem?_cons_zero, List.getElem?_cons_succ] at c0 c1 c2
 have HX := Lib.hid (⟨hp, hl, hn⟩ : _ ∧ _ ∧ _)
 have HE := Lib.hid hE
 have HW1 := Lib.hid hW1
 have HBud := Lib.hid (⟨h0, h1⟩ : _ ∧ _)
 have HA : Hid (∀ W, Below w.heap.size w W → Calls Tryz.prog 25 #[] W fun e w' => e = .returned (.bool true) ∧ Below W.heap.size W w') := fun W hW => solAwake_any W (HE.out.below hW)
 have HBox := Lib.hid hx1
 clear hp hl hn hE hx1 hW1 h0 h1
 go_enter Tryz.func6, Tryz.ntmps6
 go_upto_region 1 with fail
 go_cut [42] (fun x wx => (x = .bool true ∨ (x = .bool false ∧ SmallP ps lock needs)) ∧ Below (w.alloc (.cells #[pk, lk, nv] 26)).heap.size (w.alloc (.cells #[pk, lk, nv] 26)) wx)
 case first =>
  go_wp2_with fail
  refine HSm.out.mono ?_
  rintro e w2 ⟨⟨b, rfl, hS⟩, hb2⟩
  have hB2 := below_then HW1.out hb2
  have d0 := cell_on c0 hb2
  have d1 := cell_on c1 hb2
  have d2 := cell_on c2 hb2
  have HB2 := Lib.hid hB2
  have HS := Lib.hid hS
  have Hb2 := Lib.hid hb2
  clear c0 c1 c2 hB2 hb2 hS
  cases b
  case false =>
   go_wp2_with fail
   go_meet
   case rel => exact ⟨.inl rfl, Hb2.out⟩
  have HSp := Lib.hid (HS.out rfl)
  by_cases g1 : 3000 < bud
  ·have q1 : decide (3000 < bud) = true := decide_eq_true g1
   by_cases g2 : bud ≤ 1000000
   ·have q2 : decide (bud ≤ 1000000) = true := decide_eq_true g2
    clear g1 g2
    go_wp2_with fail
    go_meet
    case rel => exact ⟨.inl rfl, Hb2.out⟩
   ·have q2 : decide (bud ≤ 1000000) = false := decide_eq_false g2
    have q3 : decide (0 < bud) = true := decide_eq_true (by omega)
    have q4 : decide (bud ≤ 3000) = false := decide_eq_false (by omega)
    clear g1 g2
    go_wp2_with fail
    go_meet
    case rel => exact ⟨.inr ⟨rfl, HSp.out⟩, Hb2.out⟩
  ·have q1 : decide (3000 < bud) = false := decide_eq_false g1
   by_cases g3 : 0 < bud
   ·have q3 : decide (0 < bud) = true := decide_eq_true g3
    have q4 : decide (bud ≤ 3000) = true := decide_eq_true (by omega)
    have C := SmallP.ctx HSp.out (HX.out.1.below HB2.out (Nat.le_refl _)) (HX.out.2.1.below HB2.out (Nat.le_refl _)) (HX.out.2.2.below HB2.out (Nat.le_refl _)) (HE.out.below HB2.out)
    have HTb := Lib.hid (rtable_any C)
    have HG := Lib.hid (⟨g1, g3⟩ : _ ∧ _)
    clear C g1 g3
    go_wp2_with fail
    refine HTb.out.mono ?_
    rintro e w3 ⟨tv, ts, rfl, hts, hti, hb3, _⟩
    obtain ⟨hmx, ta, tc, rfl⟩ := hts.len
    have hfew : ts.length ≤ 1000000 := by have := (small_tab HSp.out hti).few; rwa [ppL_len] at this
    have hmul : IntKind.i64.wrap (bud * (ts.length : Int)) = bud * (ts.length : Int) := by
     obtain ⟨b', hb'⟩ : ∃ b' : Nat, bud = (b' : Int) := ⟨bud.toNat, by have := HG.out.2; omega⟩
     have hb6 : b' ≤ 3000 := by have := HG.out.1; omega
     have : b' * ts.length ≤ 3000 * 1000000 := Nat.mul_le_mul hb6 hfew
     rw [hb', ← Int.natCast_mul, IntKind.wrap_i64]
     omega
    obtain ⟨z, hz⟩ : ∃ z, bud * (ts.length : Int) = z := ⟨_, rfl⟩
    have hq : IntKind.i64.wrap (bud * (ts.length : Int)) = z := by rw [hmul, hz]
    clear hmul
    have Hb3 := Lib.hid (below_then Hb2.out hb3)
    clear hts hti hb3 hmx hfew d0 d1 d2 hz
    by_cases g5 : 25000 < z
    ·have q5 : decide (25000 < z) = true := decide_eq_true g5
     clear g5
     go_wp2_with fail
     go_meet
     case rel => exact ⟨.inl rfl, Hb3.out⟩
    ·have q5 : decide (25000 < z) = false := decide_eq_false g5
     clear g5
     go_wp2_with fail
     go_meet
     case rel => exact ⟨.inr ⟨rfl, HSp.out⟩, Hb3.out⟩
   ·have q3 : decide (0 < bud) = false := decide_eq_false g3
    clear g1 g3
    go_wp2_with fail
    go_meet
    case rel => exact ⟨.inr ⟨rfl, HSp.out⟩, Hb2.out⟩
 case rest =>
  obtain ⟨hx, hbc⟩ := hcut
  have HB2 := Lib.hid (below_then HW1.out hbc)
  have d0 := cell_on c0 hbc
  have d1 := cell_on c1 hbc
  have d2 := cell_on c2 hbc
  clear c0 c1 c2 hbc
  rcases hx with rfl | ⟨rfl, hS⟩
  ·go_wp2_with fail
   refine (HA.out _ HB2.out).mono ?_
   rintro e wz ⟨rfl, hbz⟩
   have hbf := HB2.out.trans (hbz.mono HB2.out.size)
   clear d0 d1 d2 hbz
   go_wp2_with fail
   go_ret
   exact ⟨rfl, hbf⟩
  have HSp := Lib.hid hS
  have C := SmallP.ctx HSp.out (HX.out.1.below HB2.out (Nat.le_refl _)) (HX.out.2.1.below HB2.out (Nat.le_refl _)) (HX.out.2.2.below HB2.out (Nat.le_refl _)) (HE.out.below HB2.out)
  have HC := Lib.hid C
  have HSo := Lib.hid (solve_as C (fun ts ht => small_tab HSp.out ht) bud HBud.out.1 HBud.out.2)
  clear C hS
  go_wp2_with fail
  refine HSo.out.mono ?_
  rintro e w3 ⟨v1, r1, n1, e1, rfl, hs1, hp1, hb3⟩
  have HB3 := Lib.hid (HB2.out.trans (hb3.mono HB2.out.size))
  have HC3 := Lib.hid (HC.out.on hb3)
  have f0 := cell_on d0 hb3
  have f1 := cell_on d1 hb3
  have f2 := cell_on d2 hb3
  have HS1 := Lib.hid (⟨hs1, hp1⟩ : _ ∧ _)
  have HSo2 := Lib.hid (rsolve_as HC3.out (fun ts ht => small_tab HSp.out ht) bud HBud.out.1 HBud.out.2)
  clear d0 d1 d2 hb3 hs1 hp1
  go_wp2_with fail
  refine HSo2.out.mono ?_
  rintro e w4 ⟨v2, r2, n2, e2, rfl, hs2, hp2, hb4⟩
  have HB4 := Lib.hid (HB3.out.trans (hb4.mono HB3.out.size))
  obtain ⟨rfl, rfl, rfl⟩ := HS1.out.1.uniq hs2
  have hp1 := HS1.out.2.below hb4 (Nat.le_refl _)
  have HSe := samePk_any v1 v2 r1 r1 w4 hp1 hp1.len hp2 hp2.len (Nat.le_trans hp1.cases.1 (by decide))
  rw [show samePk r1 r1 = true by unfold samePk; simp] at HSe
  have HSe := Lib.hid HSe
  clear f0 f1 f2 hb4 hs2 hp2 hp1
  go_wp2_with fail
  refine HSe.out.mono ?_
  rintro e w5 ⟨rfl, hb5⟩
  have HB5 := Lib.hid (HB4.out.trans (hb5.mono HB4.out.size))
  clear hb5
  go_wp2_with fail
  refine (HA.out _ HB5.out).mono ?_
  rintro e wz ⟨rfl, hbz⟩
  have hbf := HB5.out.trans (hbz.mono HB5.out.size)
  clear  hbz
  go_wp2_with fail
  go_ret
  exact ⟨by simp, hbf⟩
end Go.Proofs.YtllkiedikjgkbaaGreatDoor
