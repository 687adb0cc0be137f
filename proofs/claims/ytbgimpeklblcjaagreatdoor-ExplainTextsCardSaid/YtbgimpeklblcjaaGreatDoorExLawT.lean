/- ExplainTexts: what is told of the needs is the reference's text. The law returns true. -/
import Derived.Test.YtbgimpeklblcjaaGreatDoorExRTx
import Derived.Test.YtbgimpeklblcjaaGreatDoorExTells
import Derived.Test.YtbgimpeklblcjaaGreatDoorChPre
namespace Go.Proofs.YtbgimpeklblcjaaGreatDoor
open Go.RowKit Go.Maps
set_option maxRecDepth 100000 in
set_option maxHeartbeats 4000000 in
theorem explainTexts_any (pk lk nv : Value) (ps : List DPack) (lock : List Pik) (needs : List (Want × Value)) (k : Int) (w : World)
  (hp : Packs w pk ps) (hl : Piks w lk lock) (hn : Wants w nv needs) (hcap : ∀ a n c, nv = .slice a n c → n ≤ c) (hE : EnvI w) :
  Calls Tryz.prog 4 #[.agg #[pk, lk, nv], .int .i64 k] w fun e w' => e = .returned (.bool true) ∧ Below w.heap.size w w' := by
 obtain ⟨hmn, na, nc, rfl⟩ := hn.len
 have hnc := hcap _ _ _ rfl
 have hx1 := Below.refl (w.heap.size + 1) (w.alloc (.cells #[pk, lk, (.slice na needs.length nc)] 26))
 have hW1 := below_first hx1
 have HSm := Lib.hid (small_any pk lk (.slice na needs.length nc) ps lock needs _ (hp.below hW1 (Nat.le_refl _)) (hl.below hW1 (Nat.le_refl _)) (hn.below hW1 (Nat.le_refl _)))
 have c0 := box_cells hx1 0
 have c1 := box_cells hx1 1
 have c2 := box_cells hx1 2
 simp only [List.getElem?_toArray, List.getElem?_cons_zero, List.getElem?_cons_succ] at c0 c1 c2
 have HE := Lib.hid hE
 have HNc := Lib.hid hnc
 have HW1 := Lib.hid hW1
 have HA : Hid (∀ W, Below w.heap.size w W → Calls Tryz.prog 10 #[] W fun e w' => e = .returned (.bool true) ∧ Below W.heap.size W w') := fun W hW => exAwake_any W (HE.out.below hW)
 have HX := Lib.hid (⟨hp, hl, hn⟩ : _ ∧ _ ∧ _)
 clear hp hl hn hE hx1 hW1 hcap hnc hmn
 go_enter Tryz.func4, Tryz.ntmps4
 go_wp2_with fail
 refine HSm.out.mono ?_
 rintro e w2 ⟨⟨b, rfl, hS⟩, hb2⟩
 have hB2 := below_then HW1.out hb2
 have d0 := cell_on c0 hb2
 have d1 := cell_on c1 hb2
 have d2 := cell_on c2 hb2
 have HB2 := Lib.hid hB2
 have HS := Lib.hid hS
 clear c0 c1 c2 hB2 hb2 hS
 cases b
 case false =>
  go_wp2_with fail
  refine (HA.out _ HB2.out).mono ?_
  rintro e wz ⟨rfl, hbz⟩
  have hbf := HB2.out.trans (hbz.mono HB2.out.size)
  clear d0 d1 d2 hbz
  go_wp2_with fail
  go_ret
  exact ⟨rfl, hbf⟩
 have HSp := Lib.hid (HS.out rfl)
 have HTx := Lib.hid (exText_any pk (.slice na needs.length nc) ps needs k w2 (HX.out.1.below HB2.out (Nat.le_refl _)) (HX.out.2.2.below HB2.out (Nat.le_refl _)) (fun a n c h => by injection h with _ e1 e2; have := HNc.out; omega) (HE.out.below HB2.out) HSp.out.nd HSp.out.os)
 go_wp2_with fail
 refine HTx.out.mono ?_
 rintro e w3 ⟨T1, e1, rfl, ht1, hb3⟩
 have HB3 := Lib.hid (below_then HB2.out hb3)
 have f0 := cell_on d0 hb3
 have f2 := cell_on d2 hb3
 have HT1 := Lib.hid ht1
 have HRx := Lib.hid (rexText_any pk (.slice na needs.length nc) ps needs k w3 (HX.out.1.below HB3.out (Nat.le_refl _)) (HX.out.2.2.below HB3.out (Nat.le_refl _)) HSp.out.nd HSp.out.os)
 clear hb3 ht1 d0 d1 d2
 go_wp2_with fail
 refine HRx.out.mono ?_
 rintro e w4 ⟨T2, e2, rfl, ht2, hb4⟩
 have HB4 := Lib.hid (below_then HB3.out hb4)
 obtain ⟨rfl, rfl⟩ := HT1.out.uniq ht2
 have q1 : (T1.toList == T1.toList) = true := beq_self_eq_true _
 have q2 : (e1 == e1) = true := beq_self_eq_true _
 clear hb4 ht2 f0 f2
 go_wp2_with fail
 refine (HA.out _ HB4.out).mono ?_
 rintro e wz ⟨rfl, hbz⟩
 have hbf := HB4.out.trans (hbz.mono HB4.out.size)
 clear q1 q2 hbz
 go_wp2_with fail
 go_ret
 exact ⟨by simp, hbf⟩
end Go.Proofs.YtbgimpeklblcjaaGreatDoor
