/- SolveHolds: whether picks go together: the program's answer is the reference's. The law returns true. -/
import Derived.Test.YtllkiedikjgkbaaGreatDoorSolPre
import Derived.Test.YtllkiedikjgkbaaGreatDoorSolRef6
namespace Go.Proofs.YtllkiedikjgkbaaGreatDoor
open Go.RowKit Go.Maps
set_option maxRecDepth 100000 in
set_option maxHeartbeats 4000000 in
theorem solveHolds_any (pk lk nv xv : Value) (ps : List DPack) (lock : List Pik) (needs : List (Want × Value)) (picks : List Pik) (w : World)
    (hp : Packs w pk ps) (hl : Piks w lk lock) (hn : Wants w nv needs) (hx : Piks w xv picks) (hE : Env w) :
    Calls Tryz.prog 7 #[.agg #[pk, lk, nv], xv] w fun e w' => e = .returned (.bool true) ∧ Below w.heap.size w w' := by
  obtain ⟨xa, xc, rfl⟩ := hx.len
  have hxm := hx.cases.1
  have hx1 := Below.refl (w.heap.size + 1) (w.alloc (.cells #[pk, lk, nv] 26))
  have hW1 := below_first hx1
  have HSm := Lib.hid (small_any pk lk nv ps lock needs _ (hp.below hW1 (Nat.le_refl _)) (hl.below hW1 (Nat.le_refl _)) (hn.below hW1 (Nat.le_refl _)))
  have c0 := box_cells hx1 0
  have c1 := box_cells hx1 1
  have c2 := box_cells hx1 2
  simp only [List.getElem?_toArray, List.getElem?_cons_zero, List.getElem?_cons_succ] at c0 c1 c2
  have HX := Lib.hid (⟨hp, hl, hn, hx⟩ : _ ∧ _ ∧ _ ∧ _)
  have HE := Lib.hid hE
  have HW1 := Lib.hid hW1
  have HA : Hid (∀ W, Below w.heap.size w W → Calls Tryz.prog 25 #[] W fun e w' => e = .returned (.bool true) ∧ Below W.heap.size W w') := fun W hW => solAwake_any W (HE.out.below hW)
  clear hp hl hn hx hE hx1 hW1
  go_enter Tryz.func7, Tryz.ntmps7
  go_wp2_with fail
  refine HSm.out.mono ?_
  rintro e w2 ⟨⟨b, rfl, hS⟩, hb2⟩
  have hB2 := below_then HW1.out hb2
  have d0 := cell_on c0 hb2
  have d1 := cell_on c1 hb2
  have d2 := cell_on c2 hb2
  have HB2 := Lib.hid hB2
  have HS := Lib.hid hS
  clear c0 c1 c2 hB2 hb2 hS
  cases b
  case false =>
    go_wp2_with fail
    refine (HA.out _ HB2.out).mono ?_
    rintro e wz ⟨rfl, hbz⟩
    have hbf := HB2.out.trans (hbz.mono HB2.out.size)
    clear d0 d1 d2 hbz
    go_wp2_with fail
    go_ret
    exact ⟨rfl, hbf⟩
  have HSp := Lib.hid (HS.out rfl)
  by_cases hlen : 40 < picks.length
  · have q0 : decide ((40 : Int) < (picks.length : Int)) = true := decide_eq_true (by omega)
    have q1 : decide (40 < picks.length) = true := decide_eq_true hlen
    clear hlen
    go_wp2_with fail
    refine (HA.out _ HB2.out).mono ?_
    rintro e wz ⟨rfl, hbz⟩
    have hbf := HB2.out.trans (hbz.mono HB2.out.size)
    clear d0 d1 d2 hbz
    go_wp2_with fail
    go_ret
    exact ⟨rfl, hbf⟩
  have q0 : decide ((40 : Int) < (picks.length : Int)) = false := decide_eq_false (by omega)
  have q1 : decide (40 < picks.length) = false := decide_eq_false hlen
  have HLen : Hid (picks.length ≤ 40) := by show _ ≤ _; omega
  have C := SmallP.ctx HSp.out (HX.out.1.below HB2.out (Nat.le_refl _)) (HX.out.2.1.below HB2.out (Nat.le_refl _)) (HX.out.2.2.1.below HB2.out (Nat.le_refl _)) (HE.out.below HB2.out)
  have hd := (Below.refl w2.heap.size w2).drew
  have HCd := Lib.hid (C.on hd)
  have HBd := Lib.hid (below_then HB2.out hd)
  have HXd := Lib.hid (HX.out.2.2.2.below HBd.out (Nat.le_refl _))
  have HSt := Lib.hid (fun ts (ht : TableIs lock needs ps ts) => small_tab HSp.out ht)
  have hst : CaS w.heap.size pk lk nv w2.drew w2.drew := ⟨cell_on d0 hd, cell_on d1 hd, cell_on d2 hd, Below.refl _ _⟩
  clear hlen C hd d0 d1 d2
  go_wp2_with fail
  refine wp_region_held_drew (S := (fun W => CaS w.heap.size pk lk nv w2.drew W)) (by kernel_rfl) (hst) (fun hHeld => ?_)
  refine wpAnyH_take (i := 0) (v := ?_) rfl (by kernel_rfl) (by kernel_rfl) (by kernel_rfl) (fun _ _ _ h => h) (Or.inl ⟨by kernel_rfl, ?_⟩) hHeld ?_
  rotate_left
  · (rintro W ⟨e0, e1, e2, _⟩; go_simp; (try with_reducible rfl))
  (try simp only [Act.put, List.getElem_toArray, List.getElem_cons_zero, List.setIfInBounds_toArray, List.set_cons_succ, List.set_cons_zero])
  refine wpAnyH_take (i := 1) (v := ?_) rfl (by kernel_rfl) (by kernel_rfl) (by kernel_rfl) (fun _ _ _ h => h) (Or.inl ⟨by kernel_rfl, ?_⟩) hHeld ?_
  rotate_left
  · (rintro W ⟨e0, e1, e2, _⟩; go_simp; (try with_reducible rfl))
  (try simp only [Act.put, List.getElem_toArray, List.getElem_cons_succ, List.getElem_cons_zero, List.setIfInBounds_toArray, List.set_cons_succ, List.set_cons_zero])
  refine wpAnyH_take (i := 2) (v := ?_) rfl (by kernel_rfl) (by kernel_rfl) (by kernel_rfl) (fun _ _ _ h => h) (Or.inl ⟨by kernel_rfl, ?_⟩) hHeld ?_
  rotate_left
  · (rintro W ⟨e0, e1, e2, _⟩; go_simp; (try with_reducible rfl))
  (try simp only [Act.put, List.getElem_toArray, List.getElem_cons_succ, List.getElem_cons_zero, List.setIfInBounds_toArray, List.set_cons_succ, List.set_cons_zero])
  refine wpAnyH_take (i := 3) (v := ?_) rfl (by kernel_rfl) (by kernel_rfl) (by kernel_rfl) (fun _ _ _ h => h) (Or.inl ⟨by kernel_rfl, ?_⟩) hHeld ?_
  rotate_left
  · (rintro W ⟨e0, e1, e2, _⟩; go_simp; (try with_reducible rfl))
  (try simp only [Act.put, List.getElem_toArray, List.getElem_cons_succ, List.getElem_cons_zero, List.setIfInBounds_toArray, List.set_cons_succ, List.set_cons_zero])
  refine wpAnyH_take (i := 4) (v := ?_) rfl (by kernel_rfl) (by kernel_rfl) (by kernel_rfl) (fun _ _ _ h => h) (Or.inl ⟨by kernel_rfl, ?_⟩) hHeld ?_
  rotate_left
  · (rintro W ⟨e0, e1, e2, _⟩; go_simp; (try with_reducible rfl))
  (try simp only [Act.put, List.getElem_toArray, List.getElem_cons_succ, List.getElem_cons_zero, List.setIfInBounds_toArray, List.set_cons_succ, List.set_cons_zero])
  refine wpAnyH_take (i := 5) (v := ?_) rfl (by kernel_rfl) (by kernel_rfl) (by kernel_rfl) (fun _ _ _ h => h) (Or.inl ⟨by kernel_rfl, ?_⟩) hHeld ?_
  rotate_left
  · (rintro W ⟨e0, e1, e2, _⟩; go_simp; (try with_reducible rfl))
  (try simp only [Act.put, List.getElem_toArray, List.getElem_cons_succ, List.getElem_cons_zero, List.setIfInBounds_toArray, List.set_cons_succ, List.set_cons_zero])
  refine wpAnyH_take (i := 6) (v := ?_) rfl (by kernel_rfl) (by kernel_rfl) (by kernel_rfl) (fun _ _ _ h => h) (Or.inl ⟨by kernel_rfl, ?_⟩) hHeld ?_
  rotate_left
  · (rintro W ⟨e0, e1, e2, _⟩; go_simp; (try with_reducible rfl))
  (try simp only [Act.put, List.getElem_toArray, List.getElem_cons_succ, List.getElem_cons_zero, List.setIfInBounds_toArray, List.set_cons_succ, List.set_cons_zero])
  refine wpAnyH_take (i := 8) (v := ?_) rfl (by kernel_rfl) (by kernel_rfl) (by kernel_rfl) (fun _ _ _ h => h) (Or.inl ⟨by kernel_rfl, ?_⟩) hHeld ?_
  rotate_left
  · (rintro W ⟨e0, e1, e2, _⟩; go_simp; (try with_reducible rfl))
  (try simp only [Act.put, List.getElem_toArray, List.getElem_cons_succ, List.getElem_cons_zero, List.setIfInBounds_toArray, List.set_cons_succ, List.set_cons_zero])
  refine wpAnyH_take (i := 9) (v := ?_) rfl (by kernel_rfl) (by kernel_rfl) (by kernel_rfl) (fun _ _ _ h => h) (Or.inl ⟨by kernel_rfl, ?_⟩) hHeld ?_
  rotate_left
  · (rintro W ⟨e0, e1, e2, _⟩; go_simp; (try with_reducible rfl))
  (try simp only [Act.put, List.getElem_toArray, List.getElem_cons_succ, List.getElem_cons_zero, List.setIfInBounds_toArray, List.set_cons_succ, List.set_cons_zero])
  refine wpAnyH_take (i := 10) (v := ?_) rfl (by kernel_rfl) (by kernel_rfl) (by kernel_rfl) (fun _ _ _ h => h) (Or.inl ⟨by kernel_rfl, ?_⟩) hHeld ?_
  rotate_left
  · (rintro W ⟨e0, e1, e2, _⟩; go_simp; (try with_reducible rfl))
  (try simp only [Act.put, List.getElem_toArray, List.getElem_cons_succ, List.getElem_cons_zero, List.setIfInBounds_toArray, List.set_cons_succ, List.set_cons_zero])
  refine wpAnyH_take (i := 11) (v := ?_) rfl (by kernel_rfl) (by kernel_rfl) (by kernel_rfl) (fun _ _ _ h => h) (Or.inl ⟨by kernel_rfl, ?_⟩) hHeld ?_
  rotate_left
  · (rintro W ⟨e0, e1, e2, _⟩; go_simp; (try with_reducible rfl))
  (try simp only [Act.put, List.getElem_toArray, List.getElem_cons_succ, List.getElem_cons_zero, List.setIfInBounds_toArray, List.set_cons_succ, List.set_cons_zero])
  refine wpAnyH_take (i := 12) (v := ?_) rfl (by kernel_rfl) (by kernel_rfl) (by kernel_rfl) (fun _ _ _ h => h) (Or.inl ⟨by kernel_rfl, ?_⟩) hHeld ?_
  rotate_left
  · (rintro W ⟨e0, e1, e2, _⟩; go_simp; (try with_reducible rfl))
  (try simp only [Act.put, List.getElem_toArray, List.getElem_cons_succ, List.getElem_cons_zero, List.setIfInBounds_toArray, List.set_cons_succ, List.set_cons_zero])
  refine wpAnyH_take (i := 13) (v := ?_) rfl (by kernel_rfl) (by kernel_rfl) (by kernel_rfl) (fun _ _ _ h => h) (Or.inl ⟨by kernel_rfl, ?_⟩) hHeld ?_
  rotate_left
  · (rintro W ⟨e0, e1, e2, _⟩; go_simp; (try with_reducible rfl))
  (try simp only [Act.put, List.getElem_toArray, List.getElem_cons_succ, List.getElem_cons_zero, List.setIfInBounds_toArray, List.set_cons_succ, List.set_cons_zero])
  refine wpAnyH_take (i := 14) (v := ?_) rfl (by kernel_rfl) (by kernel_rfl) (by kernel_rfl) (fun _ _ _ h => h) (Or.inl ⟨by kernel_rfl, ?_⟩) hHeld ?_
  rotate_left
  · (rintro W ⟨e0, e1, e2, _⟩; go_simp; (try with_reducible rfl))
  (try simp only [Act.put, List.getElem_toArray, List.getElem_cons_succ, List.getElem_cons_zero, List.setIfInBounds_toArray, List.set_cons_succ, List.set_cons_zero])
  refine wpAnyH_ready (rs := [7]) (by kernel_rfl) (by simp) ?_
  refine AllReadyH.cons rfl (fun K hK => ?_) AllReadyH.nil
  go_simp
  refine (solHolds_as (HCd.out.on hHeld.2.2.2) HSt.out (HXd.out.below hHeld.2.2.2 (Nat.le_refl _)) ⟨_, _, rfl⟩ (by have := HLen.out; omega)).mono ?_
  rintro e w3 ⟨b, rfl, ⟨ts, hts, hiff⟩, hk7⟩
  have HI := Lib.hid (⟨hts, hiff⟩ : _ ∧ _)
  clear hts hiff
  refine hK.out _ _ (hHeld.on hk7) (fun hHeld => ?_)
  clear hK K
  (try simp only [Act.put, List.getElem_toArray, List.getElem_cons_succ, List.getElem_cons_zero, List.setIfInBounds_toArray, List.set_cons_succ, List.set_cons_zero])
  refine wpAnyH_ready (rs := [15]) (by kernel_rfl) (by simp) ?_
  refine AllReadyH.cons rfl (fun K hK => ?_) AllReadyH.nil
  go_simp
  refine (rholds_as (HCd.out.on hHeld.2.2.2) HSt.out (HXd.out.below hHeld.2.2.2 (Nat.le_refl _)) HLen.out).mono ?_
  rintro e w4 ⟨b', rfl, ⟨ts', hts', hiff'⟩, hk15⟩
  obtain rfl : b' = b := by
    rw [Bool.eq_iff_iff, hiff', HI.out.2, tables_pp hts' HI.out.1]
  clear hts' hiff'
  refine hK.out _ _ (hHeld.on hk15) (fun hHeld => ?_)
  clear hK K
  (try simp only [Act.put, List.getElem_toArray, List.getElem_cons_succ, List.getElem_cons_zero, List.setIfInBounds_toArray, List.set_cons_succ, List.set_cons_zero])
  refine wpAnyH_take (i := 16) (v := ?_) rfl (by kernel_rfl) (by kernel_rfl) (by kernel_rfl) (fun _ _ _ h => h) (Or.inl ⟨by kernel_rfl, ?_⟩) hHeld ?_
  rotate_left
  · (rintro W ⟨e0, e1, e2, _⟩; go_simp; (try with_reducible rfl))
  (try simp only [Act.put, List.getElem_toArray, List.getElem_cons_succ, List.getElem_cons_zero, List.setIfInBounds_toArray, List.set_cons_succ, List.set_cons_zero])
  refine wpAnyH_take (i := 17) (v := ?_) rfl (by kernel_rfl) (by kernel_rfl) (by kernel_rfl) (fun _ _ _ h => h) (Or.inl ⟨by kernel_rfl, ?_⟩) hHeld ?_
  rotate_left
  · (rintro W ⟨e0, e1, e2, _⟩; go_simp; (try with_reducible rfl))
  (try simp only [Act.put, List.getElem_toArray, List.getElem_cons_succ, List.getElem_cons_zero, List.setIfInBounds_toArray, List.set_cons_succ, List.set_cons_zero])
  refine wpAnyH_ready (rs := [18]) (by kernel_rfl) (by simp) ?_
  refine AllReadyH.cons rfl (fun K hK => ?_) AllReadyH.nil
  go_simp
  refine (HA.out _ (below_then HBd.out hHeld.2.2.2)).mono ?_
  rintro e w5 ⟨rfl, hk18⟩
  refine hK.out _ _ (hHeld.on hk18) (fun hHeld => ?_)
  clear hK K
  (try simp only [Act.put, List.getElem_toArray, List.getElem_cons_succ, List.getElem_cons_zero, List.setIfInBounds_toArray, List.set_cons_succ, List.set_cons_zero])
  refine wpAnyH_take (i := 19) (v := ?_) rfl (by kernel_rfl) (by kernel_rfl) (by kernel_rfl) (fun _ _ _ h => h) (Or.inl ⟨by kernel_rfl, ?_⟩) hHeld ?_
  rotate_left
  · (rintro W ⟨e0, e1, e2, _⟩; go_simp; (try with_reducible rfl))
  (try simp only [Act.put, List.getElem_toArray, List.getElem_cons_succ, List.getElem_cons_zero, List.setIfInBounds_toArray, List.set_cons_succ, List.set_cons_zero])
  refine wpAnyH_take (i := 20) (v := ?_) rfl (by kernel_rfl) (by kernel_rfl) (by kernel_rfl) (fun _ _ _ h => h) (Or.inl ⟨by kernel_rfl, ?_⟩) hHeld ?_
  rotate_left
  · (rintro W ⟨e0, e1, e2, _⟩; go_simp; (try with_reducible rfl))
  (try simp only [Act.put, List.getElem_toArray, List.getElem_cons_succ, List.getElem_cons_zero, List.setIfInBounds_toArray, List.set_cons_succ, List.set_cons_zero])
  refine wpAnyH_done (by kernel_rfl) ?_ _
  have hbE := below_then HBd.out hHeld.2.2.2
  have HBE := Lib.hid hbE
  clear hst hHeld hbE
  go_wp2_with fail
  go_ret
  exact ⟨by first | rfl | simp, HBE.out⟩
end Go.Proofs.YtllkiedikjgkbaaGreatDoor
