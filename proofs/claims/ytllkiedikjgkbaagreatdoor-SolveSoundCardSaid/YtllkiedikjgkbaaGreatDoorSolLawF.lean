/- SolveFirst: where picks hold, the solver does not say that there are none. The law returns true. -/
import Derived.Test.YtllkiedikjgkbaaGreatDoorChPre
import Derived.Test.YtllkiedikjgkbaaGreatDoorSolAw1
namespace Go
theorem int_bounds {a : Int} (h : (Lit.int .i64 a).wf = true) : -9223372036854775808 ≤ a ∧ a ≤ 9223372036854775807 := by
  simp only [Lit.wf, Bool.and_eq_true, decide_eq_true_eq] at h
  exact ⟨h.1, h.2⟩
end Go
namespace Go.Proofs.YtllkiedikjgkbaaGreatDoor
open Go.RowKit Go.Maps
set_option maxRecDepth 100000 in
set_option maxHeartbeats 4000000 in
theorem solveFirst_any (pk lk nv xv : Value) (ps : List DPack) (lock : List Pik) (needs : List (Want × Value)) (picks : List Pik) (bud : Int) (w : World)
    (hp : Packs w pk ps) (hl : Piks w lk lock) (hn : Wants w nv needs) (hx : Piks w xv picks) (h0 : -9223372036854775808 ≤ bud) (h1 : bud ≤ 9223372036854775807) (hE : Env w) :
    Calls Tryz.prog 10 #[.agg #[pk, lk, nv], xv, .int .i64 bud] w fun e w' => e = .returned (.bool true) ∧ Below w.heap.size w w' := by
  obtain ⟨xa, xc, rfl⟩ := hx.len
  have hxm := hx.cases.1
  have hx1 := Below.refl (w.heap.size + 1) (w.alloc (.cells #[pk, lk, nv] 26))
  have hW1 := below_first hx1
  have HSm := Lib.hid (small_any pk lk nv ps lock needs _ (hp.below hW1 (Nat.le_refl _)) (hl.below hW1 (Nat.le_refl _)) (hn.below hW1 (Nat.le_refl _)))
  have c0 := box_cells hx1 0
  have c1 := box_cells hx1 1
  have c2 := box_cells hx1 2
  simp only [List.getElem?_toArray, List.getElem?_cons_zero, List.getElem?_cons_succ] at c0 c1 c2
  have HX := Lib.hid (⟨hp, hl, hn, hx⟩ : _ ∧ _ ∧ _ ∧ _)
  have HE := Lib.hid hE
  have HW1 := Lib.hid hW1
  have HBud := Lib.hid (⟨h0, h1⟩ : _ ∧ _)
  have HA : Hid (∀ W, Below w.heap.size w W → Calls Tryz.prog 25 #[] W fun e w' => e = .returned (.bool true) ∧ Below W.heap.size W w') := fun W hW => solAwake_any W (HE.out.below hW)
  clear hp hl hn hx hE hx1 hW1 h0 h1
  go_enter Tryz.func10, Tryz.ntmps10
  go_wp2_with fail
  refine HSm.out.mono ?_
  rintro e w2 ⟨⟨b, rfl, hS⟩, hb2⟩
  have hB2 := below_then HW1.out hb2
  have d0 := cell_on c0 hb2
  have d1 := cell_on c1 hb2
  have d2 := cell_on c2 hb2
  have HB2 := Lib.hid hB2
  have HS := Lib.hid hS
  clear c0 c1 c2 hB2 hb2 hS
  cases b
  case false =>
    go_wp2_with fail
    refine (HA.out _ HB2.out).mono ?_
    rintro e w3 ⟨rfl, hb3⟩
    have hb4 := HB2.out.trans (hb3.mono HB2.out.size)
    clear d0 d1 d2 hb3
    go_wp2_with fail
    go_ret
    exact ⟨rfl, hb4⟩
  case true =>
    have HSp := Lib.hid (HS.out rfl)
    by_cases hlen : 40 < picks.length
    · have q0 : decide ((40 : Int) < (picks.length : Int)) = true := decide_eq_true (by omega)
      have q1 : decide (40 < picks.length) = true := decide_eq_true hlen
      clear hlen
      go_wp2_with fail
      refine (HA.out _ HB2.out).mono ?_
      rintro e w3 ⟨rfl, hb3⟩
      have hb4 := HB2.out.trans (hb3.mono HB2.out.size)
      clear d0 d1 d2 hb3
      go_wp2_with fail
      go_ret
      exact ⟨rfl, hb4⟩
    · have q0 : decide ((40 : Int) < (picks.length : Int)) = false := decide_eq_false (by omega)
      have q1 : decide (40 < picks.length) = false := decide_eq_false hlen
      have HLen := Lib.hid hlen
      clear hlen
      by_cases hbd : 20000 < bud
      · have q2 : decide (20000 < bud) = true := decide_eq_true hbd
        clear hbd
        go_wp2_with fail
        refine (HA.out _ HB2.out).mono ?_
        rintro e w3 ⟨rfl, hb3⟩
        have hb4 := HB2.out.trans (hb3.mono HB2.out.size)
        clear d0 d1 d2 hb3
        go_wp2_with fail
        go_ret
        exact ⟨rfl, hb4⟩
      · have q2 : decide (20000 < bud) = false := decide_eq_false hbd
        clear hbd
        have C := SmallP.ctx HSp.out (HX.out.1.below HB2.out (Nat.le_refl _)) (HX.out.2.1.below HB2.out (Nat.le_refl _)) (HX.out.2.2.1.below HB2.out (Nat.le_refl _)) (HE.out.below HB2.out)
        have HC := Lib.hid C
        have HHo := Lib.hid (solHolds_as C (fun ts ht => small_tab HSp.out ht) (HX.out.2.2.2.below HB2.out (Nat.le_refl _)) ⟨_, _, rfl⟩ (by have := HLen.out; omega))
        clear C
        go_wp2_with fail
        refine HHo.out.mono ?_
        rintro e w3 ⟨b, rfl, ⟨ts, hts, hiff⟩, hb3⟩
        have hB3 := HB2.out.trans (hb3.mono HB2.out.size)
        have e0 := cell_on d0 hb3
        have e1 := cell_on d1 hb3
        have e2 := cell_on d2 hb3
        have HB3 := Lib.hid hB3
        have HT := Lib.hid (⟨hts, hiff⟩ : _ ∧ _)
        have HSo := Lib.hid (solve_as (HC.out.on hb3) (fun ts ht => small_tab HSp.out ht) bud HBud.out.1 HBud.out.2)
        clear d0 d1 d2 hts hiff hB3 hb3
        cases b
        case false =>
          go_wp2_with fail
          refine (HA.out _ HB3.out).mono ?_
          rintro e w4 ⟨rfl, hb4⟩
          have hb5 := HB3.out.trans (hb4.mono HB3.out.size)
          clear e0 e1 e2 hb4
          go_wp2_with fail
          go_ret
          exact ⟨rfl, hb5⟩
        case true =>
          have HH := Lib.hid (HT.out.2.1 rfl)
          go_wp2_with fail
          refine HSo.out.mono ?_
          rintro e w4 ⟨v, r, n, er, rfl, hsol, _, hb4⟩
          have hB4 := HB3.out.trans (hb4.mono HB3.out.size)
          have HB4 := Lib.hid hB4
          have her : er ≠ 250 := hsol.first HT.out.1 HH.out
          have HQ : Hid ((er != 250) = true) := bne_iff_ne.2 her
          clear e0 e1 e2 hsol hb4 hB4
          go_wp2_with fail
          refine (HA.out _ HB4.out).mono ?_
          rintro e w5 ⟨rfl, hb5⟩
          have hb6 := HB4.out.trans (hb5.mono HB4.out.size)
          clear hb5
          go_wp2_with fail
          go_ret
          exact ⟨by rw [HQ.out]; rfl, hb6⟩
end Go.Proofs.YtllkiedikjgkbaaGreatDoor
