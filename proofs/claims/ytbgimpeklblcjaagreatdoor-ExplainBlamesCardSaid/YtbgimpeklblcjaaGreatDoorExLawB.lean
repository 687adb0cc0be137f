/- ExplainBlames: how many needs do not go together: the program's answer is the reference's. The law returns true. -/
import Derived.Test.YtbgimpeklblcjaaGreatDoorExRBl
import Derived.Test.YtbgimpeklblcjaaGreatDoorExTells
import Derived.Test.YtbgimpeklblcjaaGreatDoorChPre
namespace Go.Proofs.YtbgimpeklblcjaaGreatDoor
open Go.RowKit Go.Maps
set_option maxRecDepth 100000 in
set_option maxHeartbeats 4000000 in
theorem explainBlames_any (pk lk nv : Value) (ps : List DPack) (lock : List Pik) (needs : List (Want × Value)) (bud : Int) (w : World)
  (hp : Packs w pk ps) (hl : Piks w lk lock) (hn : Wants w nv needs) (hcap : ∀ a n c, nv = .slice a n c → n ≤ c) (h0 : -9223372036854775808 ≤ bud) (h1 : bud ≤ 9223372036854775807) (hE : EnvI w) :
  Calls Tryz.prog 3 #[.agg #[pk, lk, nv], .int .i64 bud] w fun e w' => e = .returned (.bool true) ∧ Below w.heap.size w w' := by
 obtain ⟨hmn, na, nc, rfl⟩ := hn.len
 have hnc := hcap _ _ _ rfl
 have HNc := Lib.hid hnc
 have hx1 := Below.refl (w.heap.size + 1) (w.alloc (.cells #[pk, lk, (.slice na needs.length nc)] 26))
 have hW1 := below_first hx1
 have HSm := Lib.hid (small_any pk lk (.slice na needs.length nc) ps lock needs _ (hp.below hW1 (Nat.le_refl _)) (hl.below hW1 (Nat.le_refl _)) (hn.below hW1 (Nat.le_refl _)))
 have c0 := box_cells hx1 0
 have c1 := box_cells hx1 1
 have c2 := box_cells hx1 2
 simp only [List.getElem?_toArray, List.getElem?_cons_zero, List.getElem?_cons_succ] at c0 c1 c2
 have HX := Lib.hid (⟨hp, hl, hn⟩ : _ ∧ _ ∧ _)
 have HE := Lib.hid hE
 have HW1 := Lib.hid hW1
 have HBud := Lib.hid (⟨h0, h1⟩ : _ ∧ _)
 have HA : Hid (∀ W, Below w.heap.size w W → Calls Tryz.prog 10 #[] W fun e w' => e = .returned (.bool true) ∧ Below W.heap.size W w') := fun W hW => exAwake_any W (HE.out.below hW)
 have HBox := Lib.hid hx1
 clear hp hl hn hE hx1 hW1 h0 h1 hcap hnc hmn
 go_enter Tryz.func3, Tryz.ntmps3
 go_upto_region 1 with fail
 go_cut [44] (fun x wx => (x = .bool true ∨ (x = .bool false ∧ SmallP ps lock needs ∧ needs.length ≤ 6)) ∧ Below (w.alloc (.cells #[pk, lk, (.slice na needs.length nc)] 26)).heap.size (w.alloc (.cells #[pk, lk, (.slice na needs.length nc)] 26)) wx)
 case first =>
  go_wp2_with fail
  refine HSm.out.mono ?_
  rintro e w2 ⟨⟨b, rfl, hS⟩, hb2⟩
  have hB2 := below_then HW1.out hb2
  have d0 := cell_on c0 hb2
  have d1 := cell_on c1 hb2
  have d2 := cell_on c2 hb2
  have HB2 := Lib.hid hB2
  have HS := Lib.hid hS
  have Hb2 := Lib.hid hb2
  clear c0 c1 c2 hB2 hb2 hS
  cases b
  case false =>
   go_wp2_with fail
   go_meet
   case rel => exact ⟨.inl rfl, Hb2.out⟩
  have HSp := Lib.hid (HS.out rfl)
  by_cases ga : 6 < needs.length
  ·have qa : decide ((6 : Int) < (needs.length : Int)) = true := decide_eq_true (by omega)
   have qa2 : decide (6 < needs.length) = true := decide_eq_true ga
   clear ga
   go_wp2_with fail
   go_meet
   case rel => exact ⟨.inl rfl, Hb2.out⟩
  have qa : decide ((6 : Int) < (needs.length : Int)) = false := decide_eq_false (by omega)
  have qa2 : decide (6 < needs.length) = false := decide_eq_false ga
  have HN6 : Hid (needs.length ≤ 6) := by show _ ≤ _; omega
  clear ga
  by_cases g1 : 2000 < bud
  ·have q1 : decide (2000 < bud) = true := decide_eq_true g1
   by_cases g2 : bud ≤ 1000000
   ·have q2 : decide (bud ≤ 1000000) = true := decide_eq_true g2
    clear g1 g2
    go_wp2_with fail
    go_meet
    case rel => exact ⟨.inl rfl, Hb2.out⟩
   ·have q2 : decide (bud ≤ 1000000) = false := decide_eq_false g2
    have q3 : decide (0 < bud) = true := decide_eq_true (by omega)
    have q4 : decide (bud ≤ 2000) = false := decide_eq_false (by omega)
    clear g1 g2
    go_wp2_with fail
    go_meet
    case rel => exact ⟨.inr ⟨rfl, HSp.out, HN6.out⟩, Hb2.out⟩
  ·have q1 : decide (2000 < bud) = false := decide_eq_false g1
   by_cases g3 : 0 < bud
   ·have q3 : decide (0 < bud) = true := decide_eq_true g3
    have q4 : decide (bud ≤ 2000) = true := decide_eq_true (by omega)
    have hS0 : SmallP ps [] needs := ⟨HSp.out.few, Nat.zero_le _, HSp.out.os, (fun x hx => by cases hx), HSp.out.nd⟩
    have HS0 := Lib.hid hS0
    have C := SmallP.ctx hS0 (HX.out.1.below HB2.out (Nat.le_refl _)) (piks_nil _) (HX.out.2.2.below HB2.out (Nat.le_refl _)) (HE.out.env.below HB2.out)
    have HTb := Lib.hid (rtable_any C)
    have HG := Lib.hid (⟨g1, g3⟩ : _ ∧ _)
    clear C g1 g3 hS0
    go_wp2_with fail
    refine HTb.out.mono ?_
    rintro e w3 ⟨tv, ts, rfl, hts, hti, hb3, _⟩
    obtain ⟨hmx, ta, tc, rfl⟩ := hts.len
    have hfew : ts.length ≤ 1000000 := by have := (small_tab HS0.out hti).few; rwa [ppL_len] at this
    have hmul : IntKind.i64.wrap (bud * (ts.length : Int)) = bud * (ts.length : Int) := by
     obtain ⟨b', hb'⟩ : ∃ b' : Nat, bud = (b' : Int) := ⟨bud.toNat, by have := HG.out.2; omega⟩
     have hb6 : b' ≤ 2000 := by have := HG.out.1; omega
     have : b' * ts.length ≤ 2000 * 1000000 := Nat.mul_le_mul hb6 hfew
     rw [hb', ← Int.natCast_mul, IntKind.wrap_i64]
     omega
    obtain ⟨z, hz⟩ : ∃ z, bud * (ts.length : Int) = z := ⟨_, rfl⟩
    have hq : IntKind.i64.wrap (bud * (ts.length : Int)) = z := by rw [hmul, hz]
    clear hmul
    have Hb3 := Lib.hid (below_then Hb2.out hb3)
    clear hts hti hb3 hmx hfew d0 d1 d2 hz
    by_cases g5 : 10000 < z
    ·have q5 : decide (10000 < z) = true := decide_eq_true g5
     clear g5
     go_wp2_with fail
     go_meet
     case rel => exact ⟨.inl rfl, Hb3.out⟩
    ·have q5 : decide (10000 < z) = false := decide_eq_false g5
     clear g5
     go_wp2_with fail
     go_meet
     case rel => exact ⟨.inr ⟨rfl, HSp.out, HN6.out⟩, Hb3.out⟩
   ·have q3 : decide (0 < bud) = false := decide_eq_false g3
    clear g1 g3
    go_wp2_with fail
    go_meet
    case rel => exact ⟨.inr ⟨rfl, HSp.out, HN6.out⟩, Hb2.out⟩
 case rest =>
  obtain ⟨hx, hbc⟩ := hcut
  have HB2 := Lib.hid (below_then HW1.out hbc)
  have d0 := cell_on c0 hbc
  have d1 := cell_on c1 hbc
  have d2 := cell_on c2 hbc
  clear c0 c1 c2 hbc
  rcases hx with rfl | ⟨rfl, hS⟩
  ·go_wp2_with fail
   refine (HA.out _ HB2.out).mono ?_
   rintro e wz ⟨rfl, hbz⟩
   have hbf := HB2.out.trans (hbz.mono HB2.out.size)
   clear d0 d1 d2 hbz
   go_wp2_with fail
   go_ret
   exact ⟨rfl, hbf⟩
  have HSp := Lib.hid hS.1
  have hc2 : ∀ a n c, ((.slice na needs.length nc) : Value) = .slice a n c → n ≤ c := fun a n c h => by injection h with _ e1 e2; have := HNc.out; omega
  have HBl := Lib.hid (blame_as HSp.out (HX.out.1.below HB2.out (Nat.le_refl _)) (HX.out.2.1.below HB2.out (Nat.le_refl _)) (HX.out.2.2.below HB2.out (Nat.le_refl _)) hc2 (HE.out.env.below HB2.out) bud HBud.out.1 HBud.out.2)
  have HC2 := Lib.hid hc2
  clear hS hc2
  go_wp2_with fail
  refine HBl.out.mono ?_
  rintro e w3 ⟨k1, e1, rfl, hs1, hb3⟩
  have HB3 := Lib.hid (HB2.out.trans (hb3.mono HB2.out.size))
  have f0 := cell_on d0 hb3
  have f1 := cell_on d1 hb3
  have f2 := cell_on d2 hb3
  have HS1 := Lib.hid hs1
  have HBl2 := Lib.hid (rblame_as HSp.out (HX.out.1.below HB3.out (Nat.le_refl _)) (HX.out.2.1.below HB3.out (Nat.le_refl _)) (HX.out.2.2.below HB3.out (Nat.le_refl _)) HC2.out (HE.out.env.below HB3.out) bud HBud.out.1 HBud.out.2)
  clear d0 d1 d2 hb3 hs1
  go_wp2_with fail
  refine HBl2.out.mono ?_
  rintro e w4 ⟨k2, e2, rfl, hs2, hb4⟩
  have HB4 := Lib.hid (HB3.out.trans (hb4.mono HB3.out.size))
  obtain ⟨rfl, rfl⟩ := HS1.out.uniq hs2
  clear f0 f1 f2 hb4 hs2
  go_wp2_with fail
  refine (HA.out _ HB4.out).mono ?_
  rintro e wz ⟨rfl, hbz⟩
  have hbf := HB4.out.trans (hbz.mono HB4.out.size)
  clear hbz
  go_wp2_with fail
  go_ret
  exact ⟨by simp, hbf⟩
end Go.Proofs.YtbgimpeklblcjaaGreatDoor
