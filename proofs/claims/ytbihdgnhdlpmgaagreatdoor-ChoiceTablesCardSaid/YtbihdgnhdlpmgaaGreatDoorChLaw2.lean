/- ChoiceTables: Any packages have the document's table for any needs. The law returns true. -/
import Derived.Test.YtbihdgnhdlpmgaaGreatDoorChAwake
import Derived.Test.YtbihdgnhdlpmgaaGreatDoorTabRefs
import Derived.Test.YtbihdgnhdlpmgaaGreatDoorChSames
namespace Go
open Go.RowKit
theorem NeedsP.bounds2 {ns : List (Want × Value)} (h : NeedsP ns) : ∀ x ∈ ns, x.1.bs.length ≤ 1000 ∧ ∀ b ∈ x.1.bs, b.v.p.size ≤ 300 := fun x hx => by
  obtain ⟨h1, _, h3⟩ := h.2 x hx
  exact ⟨by omega, fun b hb => by have := h3 b hb; omega⟩
/-- what the region looks at -/
def CaS (b : Nat) (pk lk nv : Value) (w0 W : World) : Prop := W.cell? ⟨b, 0, none⟩ = some pk ∧ W.cell? ⟨b, 1, none⟩ = some lk ∧ W.cell? ⟨b, 2, none⟩ = some nv ∧ Below w0.heap.size w0 W
theorem CaS.on {b : Nat} {pk lk nv : Value} {w0 W W' : World} (h : CaS b pk lk nv w0 W) (hb : Below W.heap.size W W') : CaS b pk lk nv w0 W' := ⟨cell_on h.1 hb, cell_on h.2.1 hb, cell_on h.2.2.1 hb, below_then h.2.2.2 hb⟩
end Go
namespace Go.Proofs.YtbihdgnhdlpmgaaGreatDoor
open Go.RowKit Go.Maps
theorem SmallP.ctx {ps : List DPack} {lock : List Pik} {needs : List (Want × Value)} (h : SmallP ps lock needs) {pk lk nv : Value} {w : World} (hp : Packs w pk ps) (hl : Piks w lk lock) (hn : Wants w nv needs) (hE : Env w) : TabCtx lock needs ps pk lk nv w where
  packs := hp
  piks := hl
  wants := hn
  env := hE
  pkos := fun p hp => ⟨Nat.le_trans (h.os p hp).1 (by decide), fun o ho => by have := ((h.os p hp).2 o ho).1; omega⟩
  ons := fun p hp o ho => by
    have := ((h.os p hp).2 o ho).2
    exact ⟨Nat.le_trans this.1 (by decide), fun x hx => by have := (this.2 x hx).1; omega⟩
  nds := h.nd.bounds2
  names := h.names.2
  few := h.names.1
set_option maxRecDepth 100000 in
set_option maxHeartbeats 8000000 in
theorem chTables_any (pk lk nv : Value) (ps : List DPack) (lock : List Pik) (needs : List (Want × Value)) (w : World) (hp : Packs w pk ps) (hl : Piks w lk lock) (hn : Wants w nv needs) (hE : Env w) :
    Calls Tryz.prog 4 #[.agg #[pk, lk, nv]] w fun e w' => e = .returned (.bool true) ∧ Below w.heap.size w w' := by
  obtain ⟨_, a0, cap0, rfl⟩ := hp.len
  obtain ⟨a1, cap1, rfl⟩ := hl.len
  obtain ⟨_, a2, cap2, rfl⟩ := hn.len
  have hx1 := Below.refl (w.heap.size + 1) (w.alloc (.cells #[.slice a0 ps.length cap0, .slice a1 lock.length cap1, .slice a2 needs.length cap2] 30))
  have hW1 := below_first hx1
  have hSm := Lib.hid (small_any _ _ _ ps lock needs _ (hp.below hW1 (Nat.le_refl _)) (hl.below hW1 (Nat.le_refl _)) (hn.below hW1 (Nat.le_refl _)))
  have b0 := box_cells hx1 0
  have b1 := box_cells hx1 1
  have b2 := box_cells hx1 2
  simp only [List.getElem?_toArray, List.getElem?_cons_zero, List.getElem?_cons_succ] at b0 b1 b2
  have HP := Lib.hid hp
  have HL := Lib.hid hl
  have HN := Lib.hid hn
  have HE := Lib.hid hE
  have HX := Lib.hid hx1
  have HW1 := Lib.hid hW1
  clear hp hl hn hE hx1 hW1
  go_enter Tryz.func4, Tryz.ntmps4
  go_wp2_with fail
  refine hSm.out.mono ?_
  rintro e w2 ⟨⟨b, rfl, hb⟩, hbw⟩
  have hb2 := HW1.out.trans (hbw.mono HW1.out.size)
  have hx2 := box_then HX.out hbw
  cases b
  · have HA := Lib.hid (awake_any w2 (HE.out.below hb2))
    clear hb b0 b1 b2
    go_wp2_with fail
    refine HA.out.mono ?_
    rintro e w3 ⟨rfl, hb3⟩
    have hb4 := below_then hb2 hb3
    go_wp2_with fail
    go_ret
    exact ⟨rfl, hb4⟩
  · have hsm := hb rfl
    have d0 := box_cells hx2 0
    have d1 := box_cells hx2 1
    have d2 := box_cells hx2 2
    simp only [List.getElem?_toArray, List.getElem?_cons_zero, List.getElem?_cons_succ] at d0 d1 d2
    have hst : CaS w.heap.size (.slice a0 ps.length cap0) (.slice a1 lock.length cap1) (.slice a2 needs.length cap2) w2.drew w2.drew := ⟨cell_on d0 (Below.refl _ _).drew, cell_on d1 (Below.refl _ _).drew, cell_on d2 (Below.refl _ _).drew, Below.refl _ _⟩
    have hd2 : Below w.heap.size w w2.drew := hb2.drew
    have hin : ∀ W, Below w2.drew.heap.size w2.drew W → TabCtx lock needs ps (.slice a0 ps.length cap0) (.slice a1 lock.length cap1) (.slice a2 needs.length cap2) W := fun W h =>
      have h := below_then hd2 h
      SmallP.ctx hsm (HP.out.below h (Nat.le_refl _)) (HL.out.below h (Nat.le_refl _)) (HN.out.below h (Nat.le_refl _)) (HE.out.below h)
    have HIn := Lib.hid hin
    have HAw : Hid (∀ W, Below w2.drew.heap.size w2.drew W → Calls Tryz.prog 10 #[] W fun e w' => e = .returned (.bool true) ∧ Below W.heap.size W w') := fun W h => awake_any W (HE.out.below (below_then hd2 h))
    have HD2 := Lib.hid hd2
    clear hb b0 b1 b2 d0 d1 d2 hsm hin hd2 hbw hx2 hb2
    go_wp2_with fail
    refine wp_region_held_drew (S := (fun W => CaS w.heap.size (.slice a0 ps.length cap0) (.slice a1 lock.length cap1) (.slice a2 needs.length cap2) w2.drew W)) (by kernel_rfl) (hst) (fun hHeld => ?_)
    refine wpAnyH_take (i := 0) (v := ?_) rfl (by kernel_rfl) (by kernel_rfl) (by kernel_rfl) (fun _ _ _ h => h) (Or.inl ⟨by kernel_rfl, ?_⟩) hHeld ?_
    rotate_left
    · (rintro W ⟨e0, e1, e2, _⟩; go_simp; (try with_reducible rfl))
    (try simp only [Act.put, List.getElem_toArray, List.getElem_cons_zero, List.setIfInBounds_toArray, List.set_cons_succ, List.set_cons_zero])
    refine wpAnyH_take (i := 1) (v := ?_) rfl (by kernel_rfl) (by kernel_rfl) (by kernel_rfl) (fun _ _ _ h => h) (Or.inl ⟨by kernel_rfl, ?_⟩) hHeld ?_
    rotate_left
    · (rintro W ⟨e0, e1, e2, _⟩; go_simp; (try with_reducible rfl))
    (try simp only [Act.put, List.getElem_toArray, List.getElem_cons_succ, List.getElem_cons_zero, List.setIfInBounds_toArray, List.set_cons_succ, List.set_cons_zero])
    refine wpAnyH_take (i := 2) (v := ?_) rfl (by kernel_rfl) (by kernel_rfl) (by kernel_rfl) (fun _ _ _ h => h) (Or.inl ⟨by kernel_rfl, ?_⟩) hHeld ?_
    rotate_left
    · (rintro W ⟨e0, e1, e2, _⟩; go_simp; (try with_reducible rfl))
    (try simp only [Act.put, List.getElem_toArray, List.getElem_cons_succ, List.getElem_cons_zero, List.setIfInBounds_toArray, List.set_cons_succ, List.set_cons_zero])
    refine wpAnyH_take (i := 3) (v := ?_) rfl (by kernel_rfl) (by kernel_rfl) (by kernel_rfl) (fun _ _ _ h => h) (Or.inl ⟨by kernel_rfl, ?_⟩) hHeld ?_
    rotate_left
    · (rintro W ⟨e0, e1, e2, _⟩; go_simp; (try with_reducible rfl))
    (try simp only [Act.put, List.getElem_toArray, List.getElem_cons_succ, List.getElem_cons_zero, List.setIfInBounds_toArray, List.set_cons_succ, List.set_cons_zero])
    refine wpAnyH_take (i := 4) (v := ?_) rfl (by kernel_rfl) (by kernel_rfl) (by kernel_rfl) (fun _ _ _ h => h) (Or.inl ⟨by kernel_rfl, ?_⟩) hHeld ?_
    rotate_left
    · (rintro W ⟨e0, e1, e2, _⟩; go_simp; (try with_reducible rfl))
    (try simp only [Act.put, List.getElem_toArray, List.getElem_cons_succ, List.getElem_cons_zero, List.setIfInBounds_toArray, List.set_cons_succ, List.set_cons_zero])
    refine wpAnyH_take (i := 5) (v := ?_) rfl (by kernel_rfl) (by kernel_rfl) (by kernel_rfl) (fun _ _ _ h => h) (Or.inl ⟨by kernel_rfl, ?_⟩) hHeld ?_
    rotate_left
    · (rintro W ⟨e0, e1, e2, _⟩; go_simp; (try with_reducible rfl))
    (try simp only [Act.put, List.getElem_toArray, List.getElem_cons_succ, List.getElem_cons_zero, List.setIfInBounds_toArray, List.set_cons_succ, List.set_cons_zero])
    refine wpAnyH_take (i := 7) (v := ?_) rfl (by kernel_rfl) (by kernel_rfl) (by kernel_rfl) (fun _ _ _ h => h) (Or.inl ⟨by kernel_rfl, ?_⟩) hHeld ?_
    rotate_left
    · (rintro W ⟨e0, e1, e2, _⟩; go_simp; (try with_reducible rfl))
    (try simp only [Act.put, List.getElem_toArray, List.getElem_cons_succ, List.getElem_cons_zero, List.setIfInBounds_toArray, List.set_cons_succ, List.set_cons_zero])
    refine wpAnyH_take (i := 8) (v := ?_) rfl (by kernel_rfl) (by kernel_rfl) (by kernel_rfl) (fun _ _ _ h => h) (Or.inl ⟨by kernel_rfl, ?_⟩) hHeld ?_
    rotate_left
    · (rintro W ⟨e0, e1, e2, _⟩; go_simp; (try with_reducible rfl))
    (try simp only [Act.put, List.getElem_toArray, List.getElem_cons_succ, List.getElem_cons_zero, List.setIfInBounds_toArray, List.set_cons_succ, List.set_cons_zero])
    refine wpAnyH_take (i := 9) (v := ?_) rfl (by kernel_rfl) (by kernel_rfl) (by kernel_rfl) (fun _ _ _ h => h) (Or.inl ⟨by kernel_rfl, ?_⟩) hHeld ?_
    rotate_left
    · (rintro W ⟨e0, e1, e2, _⟩; go_simp; (try with_reducible rfl))
    (try simp only [Act.put, List.getElem_toArray, List.getElem_cons_succ, List.getElem_cons_zero, List.setIfInBounds_toArray, List.set_cons_succ, List.set_cons_zero])
    refine wpAnyH_take (i := 10) (v := ?_) rfl (by kernel_rfl) (by kernel_rfl) (by kernel_rfl) (fun _ _ _ h => h) (Or.inl ⟨by kernel_rfl, ?_⟩) hHeld ?_
    rotate_left
    · (rintro W ⟨e0, e1, e2, _⟩; go_simp; (try with_reducible rfl))
    (try simp only [Act.put, List.getElem_toArray, List.getElem_cons_succ, List.getElem_cons_zero, List.setIfInBounds_toArray, List.set_cons_succ, List.set_cons_zero])
    refine wpAnyH_take (i := 11) (v := ?_) rfl (by kernel_rfl) (by kernel_rfl) (by kernel_rfl) (fun _ _ _ h => h) (Or.inl ⟨by kernel_rfl, ?_⟩) hHeld ?_
    rotate_left
    · (rintro W ⟨e0, e1, e2, _⟩; go_simp; (try with_reducible rfl))
    (try simp only [Act.put, List.getElem_toArray, List.getElem_cons_succ, List.getElem_cons_zero, List.setIfInBounds_toArray, List.set_cons_succ, List.set_cons_zero])
    refine wpAnyH_take (i := 12) (v := ?_) rfl (by kernel_rfl) (by kernel_rfl) (by kernel_rfl) (fun _ _ _ h => h) (Or.inl ⟨by kernel_rfl, ?_⟩) hHeld ?_
    rotate_left
    · (rintro W ⟨e0, e1, e2, _⟩; go_simp; (try with_reducible rfl))
    (try simp only [Act.put, List.getElem_toArray, List.getElem_cons_succ, List.getElem_cons_zero, List.setIfInBounds_toArray, List.set_cons_succ, List.set_cons_zero])
    refine wpAnyH_ready (rs := [6]) (by kernel_rfl) (by simp) ?_
    refine AllReadyH.cons rfl (fun K hK => ?_) AllReadyH.nil
    go_simp
    refine (table_as (HIn.out _ hHeld.2.2.2)).mono ?_
    rintro e w3 ⟨x, qs, rfl, hpq, htq, hk3, hq3⟩
    obtain ⟨_, xa, xc, rfl⟩ := hpq.len
    obtain ⟨n3, hn3⟩ : ∃ n, qs.length = n := ⟨_, rfl⟩
    rw [hn3] at hpq ⊢
    have HR3 := Lib.hid (⟨hpq, htq, hq3, hn3⟩ : _ ∧ _ ∧ _ ∧ _)
    clear hpq htq hq3 hn3
    refine hK.out _ _ (hHeld.on hk3) (fun hHeld => ?_)
    clear hK K
    (try simp only [Act.put, List.getElem_toArray, List.getElem_cons_succ, List.getElem_cons_zero, List.setIfInBounds_toArray, List.set_cons_succ, List.set_cons_zero])
    refine wpAnyH_ready (rs := [13]) (by kernel_rfl) (by simp) ?_
    refine AllReadyH.cons rfl (fun K hK => ?_) AllReadyH.nil
    go_simp
    refine (rtable_any (HIn.out _ hHeld.2.2.2)).mono ?_
    rintro e w4 ⟨y, rs, rfl, hpr, htr, hk4, _⟩
    obtain ⟨_, ya, yc, rfl⟩ := hpr.len
    obtain ⟨n4, hn4⟩ : ∃ n, rs.length = n := ⟨_, rfl⟩
    rw [hn4] at hpr ⊢
    have HR4 := Lib.hid (⟨hpr, htr, HR3.out.1.below hk4 (Nat.le_refl _)⟩ : _ ∧ _ ∧ _)
    have hS4 := hHeld.on hk4
    clear hpr htr hn4
    refine hK.out _ _ (hS4) (fun hHeld => ?_)
    clear hK K
    (try simp only [Act.put, List.getElem_toArray, List.getElem_cons_succ, List.getElem_cons_zero, List.setIfInBounds_toArray, List.set_cons_succ, List.set_cons_zero])
    refine wpAnyH_ready (rs := [14]) (by kernel_rfl) (by simp) ?_
    refine AllReadyH.cons rfl (fun K hK => ?_) AllReadyH.nil
    go_simp
    have h2t := two_tables HR3.out.2.1 HR4.out.2.1
    refine (rsameP_any _ _ qs rs _ HR4.out.2.2 HR4.out.1 h2t.1 h2t.2 HR3.out.2.2.1).mono ?_
    rintro e w5 ⟨rfl, hk5⟩
    clear h2t
    refine hK.out _ _ (hHeld.on hk5) (fun hHeld => ?_)
    clear hK K
    (try simp only [Act.put, List.getElem_toArray, List.getElem_cons_succ, List.getElem_cons_zero, List.setIfInBounds_toArray, List.set_cons_succ, List.set_cons_zero])
    refine wpAnyH_take (i := 15) (v := ?_) rfl (by kernel_rfl) (by kernel_rfl) (by kernel_rfl) (fun _ _ _ h => h) (Or.inl ⟨by kernel_rfl, ?_⟩) hHeld ?_
    rotate_left
    · (rintro W ⟨e0, e1, e2, _⟩; go_simp; (try with_reducible rfl))
    (try simp only [Act.put, List.getElem_toArray, List.getElem_cons_succ, List.getElem_cons_zero, List.setIfInBounds_toArray, List.set_cons_succ, List.set_cons_zero])
    refine wpAnyH_ready (rs := [16]) (by kernel_rfl) (by simp) ?_
    refine AllReadyH.cons rfl (fun K hK => ?_) AllReadyH.nil
    go_simp
    refine (HAw.out _ hHeld.2.2.2).mono ?_
    rintro e w6 ⟨rfl, hk6⟩
    refine hK.out _ _ (hHeld.on hk6) (fun hHeld => ?_)
    clear hK K
    (try simp only [Act.put, List.getElem_toArray, List.getElem_cons_succ, List.getElem_cons_zero, List.setIfInBounds_toArray, List.set_cons_succ, List.set_cons_zero])
    refine wpAnyH_take (i := 17) (v := ?_) rfl (by kernel_rfl) (by kernel_rfl) (by kernel_rfl) (fun _ _ _ h => h) (Or.inl ⟨by kernel_rfl, ?_⟩) hHeld ?_
    rotate_left
    · (rintro W ⟨e0, e1, e2, _⟩; go_simp; (try with_reducible rfl))
    (try simp only [Act.put, List.getElem_toArray, List.getElem_cons_succ, List.getElem_cons_zero, List.setIfInBounds_toArray, List.set_cons_succ, List.set_cons_zero])
    refine wpAnyH_take (i := 18) (v := ?_) rfl (by kernel_rfl) (by kernel_rfl) (by kernel_rfl) (fun _ _ _ h => h) (Or.inl ⟨by kernel_rfl, ?_⟩) hHeld ?_
    rotate_left
    · (rintro W ⟨e0, e1, e2, _⟩; go_simp; (try with_reducible rfl))
    (try simp only [Act.put, List.getElem_toArray, List.getElem_cons_succ, List.getElem_cons_zero, List.setIfInBounds_toArray, List.set_cons_succ, List.set_cons_zero])
    refine wpAnyH_done (by kernel_rfl) ?_ _
    have hb3 := HD2.out.trans (hHeld.2.2.2.mono HD2.out.size)
    go_wp2_with fail
    go_ret
    exact ⟨rfl, hb3⟩
end Go.Proofs.YtbihdgnhdlpmgaaGreatDoor
