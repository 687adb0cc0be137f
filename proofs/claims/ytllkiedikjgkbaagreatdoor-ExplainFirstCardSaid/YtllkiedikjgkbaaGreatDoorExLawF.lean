/- ExplainFirst: the needs that are told do not go together, those but the last of them do. The law returns true. -/
import Derived.Test.YtllkiedikjgkbaaGreatDoorExAw1
import Derived.Test.YtllkiedikjgkbaaGreatDoorExBl
import Derived.Test.YtllkiedikjgkbaaGreatDoorChPre
namespace Go.Proofs.YtllkiedikjgkbaaGreatDoor
open Go.RowKit Go.Maps
set_option maxRecDepth 100000 in
set_option maxHeartbeats 4000000 in
theorem explainFirst_any (pk lk nv : Value) (ps : List DPack) (lock : List Pik) (needs : List (Want × Value)) (bud : Int) (w : World)
    (hp : Packs w pk ps) (hl : Piks w lk lock) (hn : Wants w nv needs) (hcap : ∀ a n c, nv = .slice a n c → n ≤ c) (h0 : -9223372036854775808 ≤ bud) (h1 : bud ≤ 9223372036854775807) (hE : EnvI w) :
    Calls Tryz.prog 14 #[.agg #[pk, lk, nv], .int .i64 bud] w fun e w' => e = .returned (.bool true) ∧ Below w.heap.size w w' := by
  obtain ⟨hmn, na, nc, rfl⟩ := hn.len
  have hnc := hcap _ _ _ rfl
  have hx1 := Below.refl (w.heap.size + 1) (w.alloc (.cells #[pk, lk, (.slice na needs.length nc)] 26))
  have hW1 := below_first hx1
  have HSm := Lib.hid (small_any pk lk (.slice na needs.length nc) ps lock needs _ (hp.below hW1 (Nat.le_refl _)) (hl.below hW1 (Nat.le_refl _)) (hn.below hW1 (Nat.le_refl _)))
  have c0 := box_cells hx1 0
  have c1 := box_cells hx1 1
  have c2 := box_cells hx1 2
  simp only [List.getElem?_toArray, List.getElem?_cons_zero, List.getElem?_cons_succ] at c0 c1 c2
  have HX := Lib.hid (⟨hp, hl, hn⟩ : _ ∧ _ ∧ _)
  have HE := Lib.hid hE
  have HNc := Lib.hid hnc
  have HW1 := Lib.hid hW1
  have HBud := Lib.hid (⟨h0, h1⟩ : _ ∧ _)
  have HA : Hid (∀ W, Below w.heap.size w W → Calls Tryz.prog 34 #[] W fun e w' => e = .returned (.bool true) ∧ Below W.heap.size W w') := fun W hW => exAwake_any W (HE.out.below hW)
  clear hp hl hn hE hx1 hW1 h0 h1 hcap hnc hmn
  go_enter Tryz.func14, Tryz.ntmps14
  go_wp2_with fail
  refine HSm.out.mono ?_
  rintro e w2 ⟨⟨b, rfl, hS⟩, hb2⟩
  have hB2 := below_then HW1.out hb2
  have d0 := cell_on c0 hb2
  have d1 := cell_on c1 hb2
  have d2 := cell_on c2 hb2
  have HB2 := Lib.hid hB2
  have HS := Lib.hid hS
  clear c0 c1 c2 hB2 hb2 hS
  cases b
  case false =>
    go_wp2_with fail
    refine (HA.out _ HB2.out).mono ?_
    rintro e wz ⟨rfl, hbz⟩
    have hbf := HB2.out.trans (hbz.mono HB2.out.size)
    clear d0 d1 d2 hbz
    go_wp2_with fail
    go_ret
    exact ⟨rfl, hbf⟩
  have HSp := Lib.hid (HS.out rfl)
  by_cases ga : 6 < needs.length
  · have qa : decide ((6 : Int) < (needs.length : Int)) = true := decide_eq_true (by omega)
    have qa2 : decide (6 < needs.length) = true := decide_eq_true ga
    clear ga
    go_wp2_with fail
    refine (HA.out _ HB2.out).mono ?_
    rintro e wz ⟨rfl, hbz⟩
    have hbf := HB2.out.trans (hbz.mono HB2.out.size)
    clear d0 d1 d2 hbz
    go_wp2_with fail
    go_ret
    exact ⟨rfl, hbf⟩
  have qa : decide ((6 : Int) < (needs.length : Int)) = false := decide_eq_false (by omega)
  have qa2 : decide (6 < needs.length) = false := decide_eq_false ga
  by_cases gc : 5000 < bud
  · have qc : decide (5000 < bud) = true := decide_eq_true gc
    clear ga gc
    go_wp2_with fail
    refine (HA.out _ HB2.out).mono ?_
    rintro e wz ⟨rfl, hbz⟩
    have hbf := HB2.out.trans (hbz.mono HB2.out.size)
    clear d0 d1 d2 hbz
    go_wp2_with fail
    go_ret
    exact ⟨rfl, hbf⟩
  have qc : decide (5000 < bud) = false := decide_eq_false gc
  have HBl := Lib.hid (blame_as HSp.out (HX.out.1.below HB2.out (Nat.le_refl _)) (HX.out.2.1.below HB2.out (Nat.le_refl _)) (HX.out.2.2.below HB2.out (Nat.le_refl _)) (fun a n c h => by injection h with _ e1 e2; have := HNc.out; omega) (HE.out.env.below HB2.out) bud HBud.out.1 HBud.out.2)
  have HN6 : Hid (needs.length ≤ 6) := by show _ ≤ _; omega
  clear ga gc
  go_wp2_with fail
  refine HBl.out.mono ?_
  rintro e w3 ⟨k, er, rfl, hbl, hb3⟩
  have HB3 := Lib.hid (below_then HB2.out hb3)
  have HCa : Hid (CaS w.heap.size pk lk (.slice na needs.length nc) w w3) := ⟨cell_on d0 hb3, cell_on d1 hb3, cell_on d2 hb3, HB3.out⟩
  have HFi := Lib.hid hbl.first
  clear hbl hb3 d0 d1 d2
  by_cases he : er = 0
  case neg =>
    have q0 : (er != 0) = true := bne_iff_ne.2 he
    have hk0 : k = 0 := HFi.out.1 he
    subst hk0
    clear he
    go_wp2_with fail
    refine (HA.out _ HB3.out).mono ?_
    rintro e wz ⟨rfl, hbz⟩
    have hbf := HB3.out.trans (hbz.mono HB3.out.size)
    clear  hbz
    go_wp2_with fail
    go_ret
    exact ⟨rfl, hbf⟩
  subst he
  have hkl := HFi.out.2.1 rfl
  have q1 : decide ((k : Int) < 0) = false := decide_eq_false (by omega)
  have q2 : decide ((needs.length : Int) < (k : Int)) = false := decide_eq_false (by omega)
  have q3 : decide (needs.length < k) = false := decide_eq_false (by omega)
  obtain ⟨d0, d1, d2, _⟩ := HCa.out
  have hz := cell_lt d0
  by_cases hk : k = 0
  · subst hk
    have HSl := Lib.hid (HFi.out.2.2.1 rfl rfl)
    have HSo := Lib.hid (solve_as (SmallP.ctx HSp.out (HX.out.1.below HB3.out (Nat.le_refl _)) (HX.out.2.1.below HB3.out (Nat.le_refl _)) (HX.out.2.2.below HB3.out (Nat.le_refl _)) (HE.out.env.below HB3.out)) (fun ts ht => small_tab HSp.out ht) bud HBud.out.1 HBud.out.2)
    clear hkl
    go_wp2_with fail
    refine HSo.out.mono ?_
    rintro e w4 ⟨v, r, n, er, rfl, hsol, _, hb4⟩
    have her : er = 0 := SolE.uniq ⟨r, n, hsol⟩ HSl.out
    subst her
    have HB4 := Lib.hid (below_then HB3.out hb4)
    clear hsol hb4 d0 d1 d2
    go_wp2_with fail
    refine (HA.out _ HB4.out).mono ?_
    rintro e wz ⟨rfl, hbz⟩
    have hbf := HB4.out.trans (hbz.mono HB4.out.size)
    clear  hbz
    go_wp2_with fail
    go_ret
    exact ⟨rfl, hbf⟩
  have q4 : ((k : Int) == 0) = false := by rw [beq_eq_false_iff_ne]; omega
  have q5 : (k == 0) = false := beq_eq_false_iff_ne.2 hk
  obtain ⟨h250, hs0⟩ := HFi.out.2.2.2 rfl (by omega)
  have HSl := Lib.hid (⟨h250, hs0⟩ : _ ∧ _)
  have hst2 : ∀ W, (sizeOf (Tryz.prog.elem 24)).run Tryz.prog W = .ok 2 W := fun W => by go_simp
  have hws1 := wants_take HX.out.2.2 HNc.out (show k ≤ needs.length by omega)
  have hws2 := wants_take HX.out.2.2 HNc.out (show k - 1 ≤ needs.length by omega)
  obtain ⟨s1, hs1⟩ : ∃ v, sliced na 0 k nc 2 = v := ⟨_, rfl⟩
  obtain ⟨s2, hs2⟩ : ∃ v, sliced na 0 (k - 1) nc 2 = v := ⟨_, rfl⟩
  rw [hs1] at hws1
  rw [hs2] at hws2
  have HWs := Lib.hid (⟨hws1, hws2⟩ : _ ∧ _)
  have hsl1 : ∀ W, (Instr.slice 24 (.slice na needs.length nc) none (some (.int .i64 (k : Int))) none).run Tryz.prog W = .ok s1 W := fun W => by
    have := run_slice_h (P := Tryz.prog) (w := W) (t := 24) (a := na) (len := needs.length) (cap := nc) rfl .i64 (k : Int) (by omega) (by have := HNc.out; omega)
    rw [this, hst2]
    simp [Result.andThen, hs1]
  have hsl2 : ∀ W, (Instr.slice 24 (.slice na needs.length nc) none (some (.int .i64 ((k - 1 : Nat) : Int))) none).run Tryz.prog W = .ok s2 W := fun W => by
    have := run_slice_h (P := Tryz.prog) (w := W) (t := 24) (a := na) (len := needs.length) (cap := nc) rfl .i64 ((k - 1 : Nat) : Int) (by omega) (by have := HNc.out; omega)
    rw [this, hst2]
    simp [Result.andThen, hs2]
  have hkz : IntKind.i64.wrap ((k : Int) - 1) = ((k - 1 : Nat) : Int) := by have := HN6.out; rw [IntKind.wrap_i64]; omega
  have HCt : Hid (∀ W, Below w.heap.size w W → Calls Tryz.prog 26 #[pk, lk, s1, .int .i64 bud] W (SolvePost lock (needs.take k) ps bud W)) := fun W hW =>
    solve_as (SmallP.ctx (HSp.out.take k) (HX.out.1.below hW (Nat.le_refl _)) (HX.out.2.1.below hW (Nat.le_refl _)) (HWs.out.1.below hW (Nat.le_refl _)) (HE.out.env.below hW)) (fun ts ht => small_tab (HSp.out.take k) ht) bud HBud.out.1 HBud.out.2
  have HCu : Hid (∀ W, Below w.heap.size w W → Calls Tryz.prog 26 #[pk, lk, s2, .int .i64 bud] W (SolvePost lock (needs.take (k - 1)) ps bud W)) := fun W hW =>
    solve_as (SmallP.ctx (HSp.out.take (k - 1)) (HX.out.1.below hW (Nat.le_refl _)) (HX.out.2.1.below hW (Nat.le_refl _)) (HWs.out.2.below hW (Nat.le_refl _)) (HE.out.env.below hW)) (fun ts ht => small_tab (HSp.out.take (k - 1)) ht) bud HBud.out.1 HBud.out.2
  have hd := (Below.refl w3.heap.size w3).drew
  have HBd := Lib.hid (below_then HB3.out hd)
  have hst : CaS w.heap.size pk lk (.slice na needs.length nc) w3.drew w3.drew := ⟨cell_on d0 hd, cell_on d1 hd, cell_on d2 hd, Below.refl _ _⟩
  clear hkl hk h250 hs0 hst2 hws1 hws2 hs1 hs2 hd
  go_wp2_with fail
  refine wp_region_held_drew (S := (fun W => CaS w.heap.size pk lk (.slice na needs.length nc) w3.drew W)) (by kernel_rfl) (hst) (fun hHeld => ?_)
  refine wpAnyH_take (i := 0) (v := ?_) rfl (by kernel_rfl) (by kernel_rfl) (by kernel_rfl) (fun _ _ _ h => h) (Or.inl ⟨by kernel_rfl, ?_⟩) hHeld ?_
  rotate_left
  · (rintro W ⟨e0, e1, e2, _⟩; go_simp; (try with_reducible rfl))
  (try simp only [Act.put, List.getElem_toArray, List.getElem_cons_zero, List.setIfInBounds_toArray, List.set_cons_succ, List.set_cons_zero])
  refine wpAnyH_take (i := 1) (v := ?_) rfl (by kernel_rfl) (by kernel_rfl) (by kernel_rfl) (fun _ _ _ h => h) (Or.inl ⟨by kernel_rfl, ?_⟩) hHeld ?_
  rotate_left
  · (rintro W ⟨e0, e1, e2, _⟩; go_simp; (try with_reducible rfl))
  (try simp only [Act.put, List.getElem_toArray, List.getElem_cons_succ, List.getElem_cons_zero, List.setIfInBounds_toArray, List.set_cons_succ, List.set_cons_zero])
  refine wpAnyH_take (i := 2) (v := ?_) rfl (by kernel_rfl) (by kernel_rfl) (by kernel_rfl) (fun _ _ _ h => h) (Or.inl ⟨by kernel_rfl, ?_⟩) hHeld ?_
  rotate_left
  · (rintro W ⟨e0, e1, e2, _⟩; go_simp; (try with_reducible rfl))
  (try simp only [Act.put, List.getElem_toArray, List.getElem_cons_succ, List.getElem_cons_zero, List.setIfInBounds_toArray, List.set_cons_succ, List.set_cons_zero])
  refine wpAnyH_take (i := 3) (v := ?_) rfl (by kernel_rfl) (by kernel_rfl) (by kernel_rfl) (fun _ _ _ h => h) (Or.inl ⟨by kernel_rfl, ?_⟩) hHeld ?_
  rotate_left
  · (rintro W ⟨e0, e1, e2, _⟩; go_simp; (try with_reducible rfl))
  (try simp only [Act.put, List.getElem_toArray, List.getElem_cons_succ, List.getElem_cons_zero, List.setIfInBounds_toArray, List.set_cons_succ, List.set_cons_zero])
  refine wpAnyH_take (i := 4) (v := ?_) rfl (by kernel_rfl) (by kernel_rfl) (by kernel_rfl) (fun _ _ _ h => h) (Or.inl ⟨by kernel_rfl, ?_⟩) hHeld ?_
  rotate_left
  · (rintro W ⟨e0, e1, e2, _⟩; go_simp; (try with_reducible rfl))
  (try simp only [Act.put, List.getElem_toArray, List.getElem_cons_succ, List.getElem_cons_zero, List.setIfInBounds_toArray, List.set_cons_succ, List.set_cons_zero])
  refine wpAnyH_take (i := 5) (v := ?_) rfl (by kernel_rfl) (by kernel_rfl) (by kernel_rfl) (fun _ _ _ h => h) (Or.inl ⟨by kernel_rfl, ?_⟩) hHeld ?_
  rotate_left
  · (rintro W ⟨e0, e1, e2, _⟩; go_simp; (try with_reducible rfl))
  (try simp only [Act.put, List.getElem_toArray, List.getElem_cons_succ, List.getElem_cons_zero, List.setIfInBounds_toArray, List.set_cons_succ, List.set_cons_zero])
  refine wpAnyH_take (i := 6) (v := ?_) rfl (by kernel_rfl) (by kernel_rfl) (by kernel_rfl) (fun _ _ _ h => h) (Or.inl ⟨by kernel_rfl, ?_⟩) hHeld ?_
  rotate_left
  · (rintro W ⟨e0, e1, e2, _⟩; go_simp; (try with_reducible rfl))
  (try simp only [Act.put, List.getElem_toArray, List.getElem_cons_succ, List.getElem_cons_zero, List.setIfInBounds_toArray, List.set_cons_succ, List.set_cons_zero])
  refine wpAnyH_take (i := 7) (v := ?_) rfl (by kernel_rfl) (by kernel_rfl) (by kernel_rfl) (fun _ _ _ h => h) (Or.inl ⟨by kernel_rfl, ?_⟩) hHeld ?_
  rotate_left
  · (rintro W ⟨e0, e1, e2, _⟩; go_simp; (try with_reducible rfl))
  (try simp only [Act.put, List.getElem_toArray, List.getElem_cons_succ, List.getElem_cons_zero, List.setIfInBounds_toArray, List.set_cons_succ, List.set_cons_zero])
  refine wpAnyH_take (i := 8) (v := ?_) rfl (by kernel_rfl) (by kernel_rfl) (by kernel_rfl) (fun _ _ _ h => h) (Or.inl ⟨by kernel_rfl, ?_⟩) hHeld ?_
  rotate_left
  · (rintro W ⟨e0, e1, e2, _⟩; go_simp; (try with_reducible rfl))
  (try simp only [Act.put, List.getElem_toArray, List.getElem_cons_succ, List.getElem_cons_zero, List.setIfInBounds_toArray, List.set_cons_succ, List.set_cons_zero])
  refine wpAnyH_ready (rs := [9]) (by kernel_rfl) (by simp) ?_
  refine AllReadyH.cons rfl (fun K hK => ?_) AllReadyH.nil
  go_simp
  refine (HCt.out _ (below_then HBd.out hHeld.2.2.2)).mono ?_
  rintro e w7 ⟨v7, r7, n7, er7, rfl, hsol7, _, hk7⟩
  obtain rfl : er7 = 250 := SolE.uniq ⟨r7, n7, hsol7⟩ HSl.out.1
  clear hsol7
  refine hK.out _ _ (hHeld.on hk7) (fun hHeld => ?_)
  clear hK K
  (try simp only [Act.put, List.getElem_toArray, List.getElem_cons_succ, List.getElem_cons_zero, List.setIfInBounds_toArray, List.set_cons_succ, List.set_cons_zero])
  refine wpAnyH_take (i := 10) (v := ?_) rfl (by kernel_rfl) (by kernel_rfl) (by kernel_rfl) (fun _ _ _ h => h) (Or.inl ⟨by kernel_rfl, ?_⟩) hHeld ?_
  rotate_left
  · (rintro W ⟨e0, e1, e2, _⟩; go_simp; (try with_reducible rfl))
  (try simp only [Act.put, List.getElem_toArray, List.getElem_cons_succ, List.getElem_cons_zero, List.setIfInBounds_toArray, List.set_cons_succ, List.set_cons_zero])
  refine wpAnyH_take (i := 11) (v := ?_) rfl (by kernel_rfl) (by kernel_rfl) (by kernel_rfl) (fun _ _ _ h => h) (Or.inl ⟨by kernel_rfl, ?_⟩) hHeld ?_
  rotate_left
  · (rintro W ⟨e0, e1, e2, _⟩; go_simp; (try with_reducible rfl))
  (try simp only [Act.put, List.getElem_toArray, List.getElem_cons_succ, List.getElem_cons_zero, List.setIfInBounds_toArray, List.set_cons_succ, List.set_cons_zero])
  refine wpAnyH_take (i := 12) (v := ?_) rfl (by kernel_rfl) (by kernel_rfl) (by kernel_rfl) (fun _ _ _ h => h) (Or.inl ⟨by kernel_rfl, ?_⟩) hHeld ?_
  rotate_left
  · (rintro W ⟨e0, e1, e2, _⟩; go_simp; (try with_reducible rfl))
  (try simp only [Act.put, List.getElem_toArray, List.getElem_cons_succ, List.getElem_cons_zero, List.setIfInBounds_toArray, List.set_cons_succ, List.set_cons_zero])
  refine wpAnyH_take (i := 13) (v := ?_) rfl (by kernel_rfl) (by kernel_rfl) (by kernel_rfl) (fun _ _ _ h => h) (Or.inl ⟨by kernel_rfl, ?_⟩) hHeld ?_
  rotate_left
  · (rintro W ⟨e0, e1, e2, _⟩; go_simp; (try with_reducible rfl))
  (try simp only [Act.put, List.getElem_toArray, List.getElem_cons_succ, List.getElem_cons_zero, List.setIfInBounds_toArray, List.set_cons_succ, List.set_cons_zero])
  refine wpAnyH_take (i := 14) (v := ?_) rfl (by kernel_rfl) (by kernel_rfl) (by kernel_rfl) (fun _ _ _ h => h) (Or.inl ⟨by kernel_rfl, ?_⟩) hHeld ?_
  rotate_left
  · (rintro W ⟨e0, e1, e2, _⟩; go_simp; (try with_reducible rfl))
  (try simp only [Act.put, List.getElem_toArray, List.getElem_cons_succ, List.getElem_cons_zero, List.setIfInBounds_toArray, List.set_cons_succ, List.set_cons_zero])
  refine wpAnyH_take (i := 15) (v := ?_) rfl (by kernel_rfl) (by kernel_rfl) (by kernel_rfl) (fun _ _ _ h => h) (Or.inl ⟨by kernel_rfl, ?_⟩) hHeld ?_
  rotate_left
  · (rintro W ⟨e0, e1, e2, _⟩; go_simp; (try with_reducible rfl))
  (try simp only [Act.put, List.getElem_toArray, List.getElem_cons_succ, List.getElem_cons_zero, List.setIfInBounds_toArray, List.set_cons_succ, List.set_cons_zero])
  refine wpAnyH_take (i := 16) (v := ?_) rfl (by kernel_rfl) (by kernel_rfl) (by kernel_rfl) (fun _ _ _ h => h) (Or.inl ⟨by kernel_rfl, ?_⟩) hHeld ?_
  rotate_left
  · (rintro W ⟨e0, e1, e2, _⟩; go_simp; (try with_reducible rfl))
  (try simp only [Act.put, List.getElem_toArray, List.getElem_cons_succ, List.getElem_cons_zero, List.setIfInBounds_toArray, List.set_cons_succ, List.set_cons_zero])
  refine wpAnyH_done (by kernel_rfl) ?_ _
  have HB7 := Lib.hid (below_then HBd.out hHeld.2.2.2)
  have HH := Lib.hid hHeld
  clear hst hHeld d0 d1 d2
  obtain ⟨d0, d1, d2, _⟩ := HH.out
  have hz7 := cell_lt d0
  have hd := (Below.refl w7.heap.size w7).drew
  have HBd7 := Lib.hid (below_then HB7.out hd)
  have hst : CaS w.heap.size pk lk (.slice na needs.length nc) w7.drew w7.drew := ⟨cell_on d0 hd, cell_on d1 hd, cell_on d2 hd, Below.refl _ _⟩
  clear hd
  go_wp2_with fail
  refine wp_region_held_drew (S := (fun W => CaS w.heap.size pk lk (.slice na needs.length nc) w7.drew W)) (by kernel_rfl) (hst) (fun hHeld => ?_)
  refine wpAnyH_take (i := 0) (v := ?_) rfl (by kernel_rfl) (by kernel_rfl) (by kernel_rfl) (fun _ _ _ h => h) (Or.inl ⟨by kernel_rfl, ?_⟩) hHeld ?_
  rotate_left
  · (rintro W ⟨e0, e1, e2, _⟩; go_simp; (try with_reducible rfl))
  (try simp only [Act.put, List.getElem_toArray, List.getElem_cons_zero, List.setIfInBounds_toArray, List.set_cons_succ, List.set_cons_zero])
  refine wpAnyH_take (i := 1) (v := ?_) rfl (by kernel_rfl) (by kernel_rfl) (by kernel_rfl) (fun _ _ _ h => h) (Or.inl ⟨by kernel_rfl, ?_⟩) hHeld ?_
  rotate_left
  · (rintro W ⟨e0, e1, e2, _⟩; go_simp; (try with_reducible rfl))
  (try simp only [Act.put, List.getElem_toArray, List.getElem_cons_succ, List.getElem_cons_zero, List.setIfInBounds_toArray, List.set_cons_succ, List.set_cons_zero])
  refine wpAnyH_take (i := 2) (v := ?_) rfl (by kernel_rfl) (by kernel_rfl) (by kernel_rfl) (fun _ _ _ h => h) (Or.inl ⟨by kernel_rfl, ?_⟩) hHeld ?_
  rotate_left
  · (rintro W ⟨e0, e1, e2, _⟩; go_simp; (try with_reducible rfl))
  (try simp only [Act.put, List.getElem_toArray, List.getElem_cons_succ, List.getElem_cons_zero, List.setIfInBounds_toArray, List.set_cons_succ, List.set_cons_zero])
  refine wpAnyH_take (i := 3) (v := ?_) rfl (by kernel_rfl) (by kernel_rfl) (by kernel_rfl) (fun _ _ _ h => h) (Or.inl ⟨by kernel_rfl, ?_⟩) hHeld ?_
  rotate_left
  · (rintro W ⟨e0, e1, e2, _⟩; go_simp; (try with_reducible rfl))
  (try simp only [Act.put, List.getElem_toArray, List.getElem_cons_succ, List.getElem_cons_zero, List.setIfInBounds_toArray, List.set_cons_succ, List.set_cons_zero])
  refine wpAnyH_take (i := 4) (v := ?_) rfl (by kernel_rfl) (by kernel_rfl) (by kernel_rfl) (fun _ _ _ h => h) (Or.inl ⟨by kernel_rfl, ?_⟩) hHeld ?_
  rotate_left
  · (rintro W ⟨e0, e1, e2, _⟩; go_simp; (try with_reducible rfl))
  (try simp only [Act.put, List.getElem_toArray, List.getElem_cons_succ, List.getElem_cons_zero, List.setIfInBounds_toArray, List.set_cons_succ, List.set_cons_zero])
  refine wpAnyH_take (i := 5) (v := ?_) rfl (by kernel_rfl) (by kernel_rfl) (by kernel_rfl) (fun _ _ _ h => h) (Or.inl ⟨by kernel_rfl, ?_⟩) hHeld ?_
  rotate_left
  · (rintro W ⟨e0, e1, e2, _⟩; go_simp; (try with_reducible rfl))
  (try simp only [Act.put, List.getElem_toArray, List.getElem_cons_succ, List.getElem_cons_zero, List.setIfInBounds_toArray, List.set_cons_succ, List.set_cons_zero])
  refine wpAnyH_take (i := 6) (v := ?_) rfl (by kernel_rfl) (by kernel_rfl) (by kernel_rfl) (fun _ _ _ h => h) (Or.inl ⟨by kernel_rfl, ?_⟩) hHeld ?_
  rotate_left
  · (rintro W ⟨e0, e1, e2, _⟩; go_simp; (try with_reducible rfl))
  (try simp only [Act.put, List.getElem_toArray, List.getElem_cons_succ, List.getElem_cons_zero, List.setIfInBounds_toArray, List.set_cons_succ, List.set_cons_zero])
  refine wpAnyH_take (i := 7) (v := ?_) rfl (by kernel_rfl) (by kernel_rfl) (by kernel_rfl) (fun _ _ _ h => h) (Or.inl ⟨by kernel_rfl, ?_⟩) hHeld ?_
  rotate_left
  · (rintro W ⟨e0, e1, e2, _⟩; go_simp; (try with_reducible rfl))
  (try simp only [Act.put, List.getElem_toArray, List.getElem_cons_succ, List.getElem_cons_zero, List.setIfInBounds_toArray, List.set_cons_succ, List.set_cons_zero])
  refine wpAnyH_take (i := 8) (v := ?_) rfl (by kernel_rfl) (by kernel_rfl) (by kernel_rfl) (fun _ _ _ h => h) (Or.inl ⟨by kernel_rfl, ?_⟩) hHeld ?_
  rotate_left
  · (rintro W ⟨e0, e1, e2, _⟩; go_simp; (try with_reducible rfl))
  (try simp only [Act.put, List.getElem_toArray, List.getElem_cons_succ, List.getElem_cons_zero, List.setIfInBounds_toArray, List.set_cons_succ, List.set_cons_zero])
  refine wpAnyH_take (i := 9) (v := ?_) rfl (by kernel_rfl) (by kernel_rfl) (by kernel_rfl) (fun _ _ _ h => h) (Or.inl ⟨by kernel_rfl, ?_⟩) hHeld ?_
  rotate_left
  · (rintro W ⟨e0, e1, e2, _⟩; go_simp; (try with_reducible rfl))
  (try simp only [Act.put, List.getElem_toArray, List.getElem_cons_succ, List.getElem_cons_zero, List.setIfInBounds_toArray, List.set_cons_succ, List.set_cons_zero])
  refine wpAnyH_ready (rs := [10]) (by kernel_rfl) (by simp) ?_
  refine AllReadyH.cons rfl (fun K hK => ?_) AllReadyH.nil
  go_simp
  refine (HCu.out _ (below_then HBd7.out hHeld.2.2.2)).mono ?_
  rintro e w8 ⟨v8, r8, n8, er8, rfl, hsol8, _, hk8⟩
  obtain rfl : er8 = 0 := SolE.uniq ⟨r8, n8, hsol8⟩ HSl.out.2
  clear hsol8
  refine hK.out _ _ (hHeld.on hk8) (fun hHeld => ?_)
  clear hK K
  (try simp only [Act.put, List.getElem_toArray, List.getElem_cons_succ, List.getElem_cons_zero, List.setIfInBounds_toArray, List.set_cons_succ, List.set_cons_zero])
  refine wpAnyH_take (i := 11) (v := ?_) rfl (by kernel_rfl) (by kernel_rfl) (by kernel_rfl) (fun _ _ _ h => h) (Or.inl ⟨by kernel_rfl, ?_⟩) hHeld ?_
  rotate_left
  · (rintro W ⟨e0, e1, e2, _⟩; go_simp; (try with_reducible rfl))
  (try simp only [Act.put, List.getElem_toArray, List.getElem_cons_succ, List.getElem_cons_zero, List.setIfInBounds_toArray, List.set_cons_succ, List.set_cons_zero])
  refine wpAnyH_take (i := 12) (v := ?_) rfl (by kernel_rfl) (by kernel_rfl) (by kernel_rfl) (fun _ _ _ h => h) (Or.inl ⟨by kernel_rfl, ?_⟩) hHeld ?_
  rotate_left
  · (rintro W ⟨e0, e1, e2, _⟩; go_simp; (try with_reducible rfl))
  (try simp only [Act.put, List.getElem_toArray, List.getElem_cons_succ, List.getElem_cons_zero, List.setIfInBounds_toArray, List.set_cons_succ, List.set_cons_zero])
  refine wpAnyH_take (i := 13) (v := ?_) rfl (by kernel_rfl) (by kernel_rfl) (by kernel_rfl) (fun _ _ _ h => h) (Or.inl ⟨by kernel_rfl, ?_⟩) hHeld ?_
  rotate_left
  · (rintro W ⟨e0, e1, e2, _⟩; go_simp; (try with_reducible rfl))
  (try simp only [Act.put, List.getElem_toArray, List.getElem_cons_succ, List.getElem_cons_zero, List.setIfInBounds_toArray, List.set_cons_succ, List.set_cons_zero])
  refine wpAnyH_take (i := 14) (v := ?_) rfl (by kernel_rfl) (by kernel_rfl) (by kernel_rfl) (fun _ _ _ h => h) (Or.inl ⟨by kernel_rfl, ?_⟩) hHeld ?_
  rotate_left
  · (rintro W ⟨e0, e1, e2, _⟩; go_simp; (try with_reducible rfl))
  (try simp only [Act.put, List.getElem_toArray, List.getElem_cons_succ, List.getElem_cons_zero, List.setIfInBounds_toArray, List.set_cons_succ, List.set_cons_zero])
  refine wpAnyH_take (i := 15) (v := ?_) rfl (by kernel_rfl) (by kernel_rfl) (by kernel_rfl) (fun _ _ _ h => h) (Or.inl ⟨by kernel_rfl, ?_⟩) hHeld ?_
  rotate_left
  · (rintro W ⟨e0, e1, e2, _⟩; go_simp; (try with_reducible rfl))
  (try simp only [Act.put, List.getElem_toArray, List.getElem_cons_succ, List.getElem_cons_zero, List.setIfInBounds_toArray, List.set_cons_succ, List.set_cons_zero])
  refine wpAnyH_take (i := 16) (v := ?_) rfl (by kernel_rfl) (by kernel_rfl) (by kernel_rfl) (fun _ _ _ h => h) (Or.inl ⟨by kernel_rfl, ?_⟩) hHeld ?_
  rotate_left
  · (rintro W ⟨e0, e1, e2, _⟩; go_simp; (try with_reducible rfl))
  (try simp only [Act.put, List.getElem_toArray, List.getElem_cons_succ, List.getElem_cons_zero, List.setIfInBounds_toArray, List.set_cons_succ, List.set_cons_zero])
  refine wpAnyH_take (i := 17) (v := ?_) rfl (by kernel_rfl) (by kernel_rfl) (by kernel_rfl) (fun _ _ _ h => h) (Or.inl ⟨by kernel_rfl, ?_⟩) hHeld ?_
  rotate_left
  · (rintro W ⟨e0, e1, e2, _⟩; go_simp; (try with_reducible rfl))
  (try simp only [Act.put, List.getElem_toArray, List.getElem_cons_succ, List.getElem_cons_zero, List.setIfInBounds_toArray, List.set_cons_succ, List.set_cons_zero])
  refine wpAnyH_done (by kernel_rfl) ?_ _
  have HB8 := Lib.hid (below_then HBd7.out hHeld.2.2.2)
  clear hst hHeld d0 d1 d2
  go_wp2_with fail
  refine (HA.out _ HB8.out).mono ?_
  rintro e wz ⟨rfl, hbz⟩
  have hbf := HB8.out.trans (hbz.mono HB8.out.size)
  clear  hbz
  go_wp2_with fail
  go_ret
  exact ⟨rfl, hbf⟩
end Go.Proofs.YtllkiedikjgkbaaGreatDoor
