/- SolveBudget: a greater budget changes nothing but where the smaller one was not enough. The law returns true. -/
import Derived.Test.YtllkiedikjgkbaaGreatDoorSolLawF
namespace Go
theorem SolIs.budget1 {lock : List Pik} {needs : List (Want × Value)} {ps : List DPack} {B M : Int} {r r' : List Pik} {n k : Nat} {e f : Int} (hB : 1 ≤ B) (hM : 1 ≤ M) (hB2 : B ≤ 20000) (hM2 : M ≤ 20000) (h : SolIs lock needs ps B r n e) (h' : SolIs lock needs ps (B + M) r' k f) :
    (e ≠ 251 → r = r' ∧ n = k ∧ e = f) ∧ (e = 251 → f = 0 → B < (k : Int)) ∧ (needErr needs ≠ 0 → e = f) := by
  by_cases hn : needErr needs = 0
  · obtain ⟨ts, ht⟩ : ∃ ts, TableIs lock needs ps ts := by
      rcases h with ⟨h1, _⟩ | ⟨_, h2, _⟩ | ⟨_, _, _, ts, ht, _⟩
      · exact absurd hn h1
      · omega
      · exact ⟨ts, ht⟩
    have := SolIs.budget hB hM hB2 hM2 h h' ht
    exact ⟨this.1, this.2.1, this.2.2.1⟩
  · rcases h with ⟨_, h2, h3, h4⟩ | ⟨h1, _⟩ | ⟨h1, _⟩
    · rcases h' with ⟨_, g2, g3, g4⟩ | ⟨g1, _⟩ | ⟨g1, _⟩
      · exact ⟨fun _ => ⟨by rw [h2, g2], by rw [h3, g3], by rw [h4, g4]⟩, fun he hf => by have := needErr_val needs; omega, fun _ => by rw [h4, g4]⟩
      · exact absurd g1 hn
      · exact absurd g1 hn
    · exact absurd h1 hn
    · exact absurd h1 hn
end Go
namespace Go.Proofs.YtllkiedikjgkbaaGreatDoor
open Go.RowKit Go.Maps
set_option maxRecDepth 100000 in
set_option maxHeartbeats 4000000 in
theorem solveBudget_any (pk lk nv : Value) (ps : List DPack) (lock : List Pik) (needs : List (Want × Value)) (bud more : Int) (w : World)
    (hp : Packs w pk ps) (hl : Piks w lk lock) (hn : Wants w nv needs) (h0 : -9223372036854775808 ≤ bud) (h1 : bud ≤ 9223372036854775807) (hE : Env w) :
    Calls Tryz.prog 9 #[.agg #[pk, lk, nv], .int .i64 bud, .int .i64 more] w fun e w' => e = .returned (.bool true) ∧ Below w.heap.size w w' := by
  have hx1 := Below.refl (w.heap.size + 1) (w.alloc (.cells #[pk, lk, nv] 26))
  have hW1 := below_first hx1
  have HSm := Lib.hid (small_any pk lk nv ps lock needs _ (hp.below hW1 (Nat.le_refl _)) (hl.below hW1 (Nat.le_refl _)) (hn.below hW1 (Nat.le_refl _)))
  have c0 := box_cells hx1 0
  have c1 := box_cells hx1 1
  have c2 := box_cells hx1 2
  simp only [List.getElem?_toArray, List.getElem?_cons_zero, List.getElem?_cons_succ] at c0 c1 c2
  have HX := Lib.hid (⟨hp, hl, hn⟩ : _ ∧ _ ∧ _)
  have HE := Lib.hid hE
  have HW1 := Lib.hid hW1
  have HBud := Lib.hid (⟨h0, h1⟩ : _ ∧ _)
  have HA : Hid (∀ W, Below w.heap.size w W → Calls Tryz.prog 25 #[] W fun e w' => e = .returned (.bool true) ∧ Below W.heap.size W w') := fun W hW => solAwake_any W (HE.out.below hW)
  clear hp hl hn hE hx1 hW1 h0 h1
  go_enter Tryz.func9, Tryz.ntmps9
  go_wp2_with fail
  refine HSm.out.mono ?_
  rintro e w2 ⟨⟨b, rfl, hS⟩, hb2⟩
  have hB2 := below_then HW1.out hb2
  have d0 := cell_on c0 hb2
  have d1 := cell_on c1 hb2
  have d2 := cell_on c2 hb2
  have HB2 := Lib.hid hB2
  have HS := Lib.hid hS
  clear c0 c1 c2 hB2 hb2 hS
  cases b
  case false =>
    go_wp2_with fail
    refine (HA.out _ HB2.out).mono ?_
    rintro e wz ⟨rfl, hbz⟩
    have hbf := HB2.out.trans (hbz.mono HB2.out.size)
    clear d0 d1 d2 hbz
    go_wp2_with fail
    go_ret
    exact ⟨rfl, hbf⟩
  have HSp := Lib.hid (HS.out rfl)
  by_cases ga : bud < 1
  · have qa : decide (bud < 1) = true := decide_eq_true ga
    clear ga
    go_wp2_with fail
    refine (HA.out _ HB2.out).mono ?_
    rintro e wz ⟨rfl, hbz⟩
    have hbf := HB2.out.trans (hbz.mono HB2.out.size)
    clear d0 d1 d2 hbz
    go_wp2_with fail
    go_ret
    exact ⟨rfl, hbf⟩
  have qa : decide (bud < 1) = false := decide_eq_false ga
  by_cases gb : more < 1
  · have qb : decide (more < 1) = true := decide_eq_true gb
    clear gb
    go_wp2_with fail
    refine (HA.out _ HB2.out).mono ?_
    rintro e wz ⟨rfl, hbz⟩
    have hbf := HB2.out.trans (hbz.mono HB2.out.size)
    clear d0 d1 d2 hbz
    go_wp2_with fail
    go_ret
    exact ⟨rfl, hbf⟩
  have qb : decide (more < 1) = false := decide_eq_false gb
  by_cases gc : 20000 < bud
  · have qc : decide (20000 < bud) = true := decide_eq_true gc
    clear gc
    go_wp2_with fail
    refine (HA.out _ HB2.out).mono ?_
    rintro e wz ⟨rfl, hbz⟩
    have hbf := HB2.out.trans (hbz.mono HB2.out.size)
    clear d0 d1 d2 hbz
    go_wp2_with fail
    go_ret
    exact ⟨rfl, hbf⟩
  have qc : decide (20000 < bud) = false := decide_eq_false gc
  by_cases gd : 20000 < more
  · have qd : decide (20000 < more) = true := decide_eq_true gd
    clear gd
    go_wp2_with fail
    refine (HA.out _ HB2.out).mono ?_
    rintro e wz ⟨rfl, hbz⟩
    have hbf := HB2.out.trans (hbz.mono HB2.out.size)
    clear d0 d1 d2 hbz
    go_wp2_with fail
    go_ret
    exact ⟨rfl, hbf⟩
  have qd : decide (20000 < more) = false := decide_eq_false gd
  have HG := Lib.hid (⟨ga, gb, gc, gd⟩ : _ ∧ _ ∧ _ ∧ _)
  have hwr : IntKind.i64.wrap (bud + more) = bud + more := by rw [IntKind.wrap_i64]; omega
  have C := SmallP.ctx HSp.out (HX.out.1.below HB2.out (Nat.le_refl _)) (HX.out.2.1.below HB2.out (Nat.le_refl _)) (HX.out.2.2.below HB2.out (Nat.le_refl _)) (HE.out.below HB2.out)
  have HC := Lib.hid C
  have HSo := Lib.hid (solve_as C (fun ts ht => small_tab HSp.out ht) bud (by omega) (by omega))
  clear C ga gb gc gd
  go_wp2_with fail
  refine HSo.out.mono ?_
  rintro e w3 ⟨v1, r1, n1, e1, rfl, hs1, hp1, hb3⟩
  have HB3 := Lib.hid (HB2.out.trans (hb3.mono HB2.out.size))
  have HC3 := Lib.hid (HC.out.on hb3)
  have f0 := cell_on d0 hb3
  have f1 := cell_on d1 hb3
  have f2 := cell_on d2 hb3
  have HS1 := Lib.hid (⟨hs1, hp1⟩ : _ ∧ _)
  have HSo2 := Lib.hid (solve_as HC3.out (fun ts ht => small_tab HSp.out ht) (bud + more) (by have := HG.out; omega) (by have := HG.out; omega))
  clear d0 d1 d2 hb3 hs1 hp1
  go_wp2_with fail
  refine HSo2.out.mono ?_
  rintro e w4 ⟨v2, r2, n2, e2, rfl, hs2, hp2, hb4⟩
  have HB4 := Lib.hid (HB3.out.trans (hb4.mono HB3.out.size))
  have HC4 := Lib.hid (HC3.out.on hb4)
  have k0 := cell_on f0 hb4
  have k1 := cell_on f1 hb4
  have k2 := cell_on f2 hb4
  have HS2 := Lib.hid (⟨hs2, hp2, HS1.out.2.below hb4 (Nat.le_refl _)⟩ : _ ∧ _ ∧ _)
  clear f0 f1 f2 hb4 hs2 hp2
  have hbu := SolIs.budget1 (by have := HG.out; omega) (by have := HG.out; omega) (by have := HG.out; omega) (by have := HG.out; omega) HS1.out.1 HS2.out.1
  have HBu := Lib.hid hbu
  clear hbu
  go_upto_region 5 with fail
  go_cut [90] (fun x wx => x = .bool false ∧ Below w4.heap.size w4 wx)
  case first =>
    by_cases he : e1 = 251
    · subst he
      by_cases hf : e2 = 0
      · subst hf
        have hlt := HBu.out.2.1 rfl rfl
        have q5 : decide ((n2 : Int) ≤ bud) = false := decide_eq_false (by omega)
        clear hlt
        go_wp2_with fail
        go_meet
        case rel => exact ⟨rfl, Below.refl _ _⟩
      · have q5 : (e2 == 0) = false := beq_eq_false_iff_ne.2 hf
        go_wp2_with fail
        go_meet
        case rel => exact ⟨rfl, Below.refl _ _⟩
    · obtain ⟨rfl, rfl, rfl⟩ := HBu.out.1 he
      have q5 : (e1 != 251) = true := bne_iff_ne.2 he
      have q6 : (e1 != e1) = false := bne_self_eq_false _
      have q7 : (e1 == 251) = false := beq_eq_false_iff_ne.2 he
      have HSm := Lib.hid (samePk_any v1 v2 r1 r1 w4 HS2.out.2.2 (HS2.out.2.2.len) HS2.out.2.1 (HS2.out.2.1.len) (Nat.le_trans HS2.out.2.1.cases.1 (by decide)))
      have hsm : samePk r1 r1 = true := decide_eq_true rfl
      rw [hsm] at HSm
      clear hsm
      go_wp2_with fail
      refine HSm.out.mono ?_
      rintro e wx ⟨rfl, hbx⟩
      go_wp2_with fail
      go_meet
      case rel => exact ⟨rfl, hbx⟩
  case rest =>
    obtain ⟨rfl, hbc⟩ := hcut
    have HBc := Lib.hid (HB4.out.trans (hbc.mono HB4.out.size))
    have HCc := Lib.hid (HC4.out.on hbc)
    have l0 := cell_on k0 hbc
    have l1 := cell_on k1 hbc
    have l2 := cell_on k2 hbc
    obtain ⟨er, her⟩ : ∃ e, needErr needs = e := ⟨_, rfl⟩
    have hCk := chCheck_any nv needs wc HCc.out.wants HCc.out.env (fun x hx => (HCc.out.nds x hx).2)
    rw [her] at hCk
    have HCk := Lib.hid hCk
    have HEr := Lib.hid her
    clear hCk her k0 k1 k2 hbc
    go_wp2_with fail
    refine HCk.out.mono ?_
    rintro e w5 ⟨rfl, hb5⟩
    have HB5 := Lib.hid (HBc.out.trans (hb5.mono HBc.out.size))
    have HC5 := Lib.hid (HCc.out.on hb5)
    have m0 := cell_on l0 hb5
    have m1 := cell_on l1 hb5
    have m2 := cell_on l2 hb5
    clear l0 l1 l2 hb5
    by_cases he0 : er = 0
    · subst he0
      have HEv := Lib.hid (fun ts (ht : TableIs lock needs ps ts) => (SolIs.budget (by have := HG.out; omega) (by have := HG.out; omega) (by have := HG.out; omega) (by have := HG.out; omega) HS1.out.1 HS2.out.1 ht).2.2.2 HEr.out)
      have hd := (Below.refl w5.heap.size w5).drew
      have HCd := Lib.hid (HC5.out.on hd)
      have hst : CaS w.heap.size pk lk nv w5.drew w5.drew := ⟨cell_on m0 hd, cell_on m1 hd, cell_on m2 hd, Below.refl _ _⟩
      have HD := Lib.hid hd
      clear hd m0 m1 m2
      go_wp2_with fail
      refine wp_region_held_drew (S := (fun W => CaS w.heap.size pk lk nv w5.drew W)) (by kernel_rfl) (hst) (fun hHeld => ?_)
      refine wpAnyH_take (i := 0) (v := ?_) rfl (by kernel_rfl) (by kernel_rfl) (by kernel_rfl) (fun _ _ _ h => h) (Or.inl ⟨by kernel_rfl, ?_⟩) hHeld ?_
      rotate_left
      · (rintro W ⟨e0, e1, e2, _⟩; go_simp; (try with_reducible rfl))
      (try simp only [Act.put, List.getElem_toArray, List.getElem_cons_zero, List.setIfInBounds_toArray, List.set_cons_succ, List.set_cons_zero])
      refine wpAnyH_take (i := 1) (v := ?_) rfl (by kernel_rfl) (by kernel_rfl) (by kernel_rfl) (fun _ _ _ h => h) (Or.inl ⟨by kernel_rfl, ?_⟩) hHeld ?_
      rotate_left
      · (rintro W ⟨e0, e1, e2, _⟩; go_simp; (try with_reducible rfl))
      (try simp only [Act.put, List.getElem_toArray, List.getElem_cons_succ, List.getElem_cons_zero, List.setIfInBounds_toArray, List.set_cons_succ, List.set_cons_zero])
      refine wpAnyH_take (i := 2) (v := ?_) rfl (by kernel_rfl) (by kernel_rfl) (by kernel_rfl) (fun _ _ _ h => h) (Or.inl ⟨by kernel_rfl, ?_⟩) hHeld ?_
      rotate_left
      · (rintro W ⟨e0, e1, e2, _⟩; go_simp; (try with_reducible rfl))
      (try simp only [Act.put, List.getElem_toArray, List.getElem_cons_succ, List.getElem_cons_zero, List.setIfInBounds_toArray, List.set_cons_succ, List.set_cons_zero])
      refine wpAnyH_take (i := 3) (v := ?_) rfl (by kernel_rfl) (by kernel_rfl) (by kernel_rfl) (fun _ _ _ h => h) (Or.inl ⟨by kernel_rfl, ?_⟩) hHeld ?_
      rotate_left
      · (rintro W ⟨e0, e1, e2, _⟩; go_simp; (try with_reducible rfl))
      (try simp only [Act.put, List.getElem_toArray, List.getElem_cons_succ, List.getElem_cons_zero, List.setIfInBounds_toArray, List.set_cons_succ, List.set_cons_zero])
      refine wpAnyH_take (i := 4) (v := ?_) rfl (by kernel_rfl) (by kernel_rfl) (by kernel_rfl) (fun _ _ _ h => h) (Or.inl ⟨by kernel_rfl, ?_⟩) hHeld ?_
      rotate_left
      · (rintro W ⟨e0, e1, e2, _⟩; go_simp; (try with_reducible rfl))
      (try simp only [Act.put, List.getElem_toArray, List.getElem_cons_succ, List.getElem_cons_zero, List.setIfInBounds_toArray, List.set_cons_succ, List.set_cons_zero])
      refine wpAnyH_take (i := 5) (v := ?_) rfl (by kernel_rfl) (by kernel_rfl) (by kernel_rfl) (fun _ _ _ h => h) (Or.inl ⟨by kernel_rfl, ?_⟩) hHeld ?_
      rotate_left
      · (rintro W ⟨e0, e1, e2, _⟩; go_simp; (try with_reducible rfl))
      (try simp only [Act.put, List.getElem_toArray, List.getElem_cons_succ, List.getElem_cons_zero, List.setIfInBounds_toArray, List.set_cons_succ, List.set_cons_zero])
      refine wpAnyH_take (i := 7) (v := ?_) rfl (by kernel_rfl) (by kernel_rfl) (by kernel_rfl) (fun _ _ _ h => h) (Or.inl ⟨by kernel_rfl, ?_⟩) hHeld ?_
      rotate_left
      · (rintro W ⟨e0, e1, e2, _⟩; go_simp; (try with_reducible rfl))
      (try simp only [Act.put, List.getElem_toArray, List.getElem_cons_succ, List.getElem_cons_zero, List.setIfInBounds_toArray, List.set_cons_succ, List.set_cons_zero])
      refine wpAnyH_take (i := 8) (v := ?_) rfl (by kernel_rfl) (by kernel_rfl) (by kernel_rfl) (fun _ _ _ h => h) (Or.inl ⟨by kernel_rfl, ?_⟩) hHeld ?_
      rotate_left
      · (rintro W ⟨e0, e1, e2, _⟩; go_simp; (try with_reducible rfl))
      (try simp only [Act.put, List.getElem_toArray, List.getElem_cons_succ, List.getElem_cons_zero, List.setIfInBounds_toArray, List.set_cons_succ, List.set_cons_zero])
      refine wpAnyH_ready (rs := [6]) (by kernel_rfl) (by simp) ?_
      refine AllReadyH.cons rfl (fun K hK => ?_) AllReadyH.nil
      go_simp
      refine (table_as (HCd.out.on hHeld.2.2.2)).mono ?_
      rintro e wt ⟨tv, ts, rfl, hts, hti, hk6, hos⟩
      refine hK.out _ _ (hHeld.on hk6) (fun hHeld => ?_)
      clear hK K
      (try simp only [Act.put, List.getElem_toArray, List.getElem_cons_succ, List.getElem_cons_zero, List.setIfInBounds_toArray, List.set_cons_succ, List.set_cons_zero])
      refine wpAnyH_ready (rs := [9]) (by kernel_rfl) (by simp) ?_
      refine AllReadyH.cons rfl (fun K hK => ?_) AllReadyH.nil
      go_simp
      refine (count_any _ _ ts needs 50000 wt hts (HCd.out.on hHeld.2.2.2).wants (by decide) (by decide) hos).mono ?_
      rintro e wu ⟨rfl, hk9⟩
      refine hK.out _ _ (hHeld.on hk9) (fun hHeld => ?_)
      clear hK K
      (try simp only [Act.put, List.getElem_toArray, List.getElem_cons_succ, List.getElem_cons_zero, List.setIfInBounds_toArray, List.set_cons_succ, List.set_cons_zero])
      refine wpAnyH_take (i := 10) (v := ?_) rfl (by kernel_rfl) (by kernel_rfl) (by kernel_rfl) (fun _ _ _ h => h) (Or.inl ⟨by kernel_rfl, ?_⟩) hHeld ?_
      rotate_left
      · (rintro W ⟨e0, e1, e2, _⟩; go_simp; (try with_reducible rfl))
      (try simp only [Act.put, List.getElem_toArray, List.getElem_cons_succ, List.getElem_cons_zero, List.setIfInBounds_toArray, List.set_cons_succ, List.set_cons_zero])
      refine wpAnyH_done (by kernel_rfl) ?_ _
      have hbE := HD.out.trans (hHeld.2.2.2.mono HD.out.size)
      have HB6 := Lib.hid (HB5.out.trans (hbE.mono HB5.out.size))
      obtain ⟨cn, hcn⟩ : ∃ c, countN needs ts 50000 = c := ⟨_, rfl⟩
      have hev := HEv.out ts hti
      rw [hcn] at hev ⊢
      clear hst hHeld hbE hcn hos hts
      by_cases g1 : bud < cn
      · have q1 : decide (bud < cn) = true := decide_eq_true g1
        clear g1
        by_cases g2 : e2 = 250
        · subst g2
          have g3 : (n2 : Int) = cn := hev.2.resolve_left (fun h => h rfl)
          have q3 : ((n2 : Int) == cn) = true := beq_iff_eq.2 g3
          clear g3 hev
          go_wp2_with fail
          refine (HA.out _ HB6.out).mono ?_
          rintro e wz ⟨rfl, hbz⟩
          have hbf := HB6.out.trans (hbz.mono HB6.out.size)
          clear  hbz
          go_wp2_with fail
          go_ret
          exact ⟨by (try simp only [q1, q2, q3, q4, q0]); rfl, hbf⟩
        · have q2 : (e2 != 250) = true := bne_iff_ne.2 g2
          clear g2 hev
          go_wp2_with fail
          refine (HA.out _ HB6.out).mono ?_
          rintro e wz ⟨rfl, hbz⟩
          have hbf := HB6.out.trans (hbz.mono HB6.out.size)
          clear  hbz
          go_wp2_with fail
          go_ret
          exact ⟨by (try simp only [q1, q2, q3, q4, q0]); rfl, hbf⟩
      · have q1 : decide (bud < cn) = false := decide_eq_false g1
        have g4 : e1 ≠ 251 := hev.1.resolve_left g1
        have q4 : (e1 != 251) = true := bne_iff_ne.2 g4
        clear g1 g4
        by_cases g2 : e2 = 250
        · subst g2
          have g3 : (n2 : Int) = cn := hev.2.resolve_left (fun h => h rfl)
          have q3 : ((n2 : Int) == cn) = true := beq_iff_eq.2 g3
          clear g3 hev
          go_wp2_with fail
          refine (HA.out _ HB6.out).mono ?_
          rintro e wz ⟨rfl, hbz⟩
          have hbf := HB6.out.trans (hbz.mono HB6.out.size)
          clear  hbz
          go_wp2_with fail
          go_ret
          exact ⟨by (try simp only [q1, q2, q3, q4, q0]); rfl, hbf⟩
        · have q2 : (e2 != 250) = true := bne_iff_ne.2 g2
          clear g2 hev
          go_wp2_with fail
          refine (HA.out _ HB6.out).mono ?_
          rintro e wz ⟨rfl, hbz⟩
          have hbf := HB6.out.trans (hbz.mono HB6.out.size)
          clear  hbz
          go_wp2_with fail
          go_ret
          exact ⟨by (try simp only [q1, q2, q3, q4, q0]); rfl, hbf⟩
    · have q0 : (er != 0) = true := bne_iff_ne.2 he0
      have heq : e1 = e2 := HBu.out.2.2 (by rw [HEr.out]; exact he0)
      subst heq
      clear he0
      go_wp2_with fail
      refine (HA.out _ HB5.out).mono ?_
      rintro e wz ⟨rfl, hbz⟩
      have hbf := HB5.out.trans (hbz.mono HB5.out.size)
      clear m0 m1 m2 hbz
      go_wp2_with fail
      go_ret
      exact ⟨by (try simp only [q1, q2, q3, q4, q0]); rfl, hbf⟩
end Go.Proofs.YtllkiedikjgkbaaGreatDoor
