/- ChoiceOffers: Any package has the document's choices, in its order, and any needs may be, or not. The law returns true. -/
import Derived.Test.YtbihdgnhdlpmgaaGreatDoorChAwake
import Derived.Test.YtbihdgnhdlpmgaaGreatDoorChRef3
import Derived.Test.YtbihdgnhdlpmgaaGreatDoorChSames
namespace Go
open Go.RowKit
theorem SmallP.pack {nm : ByteArray} {os : List DOff} {a : Option Addr} {k : Nat} {lock : List Pik} {needs : List (Want × Value)} (h : SmallP [⟨nm, os, a, k⟩] lock needs) : os.length ≤ 1000000 ∧ ∀ o ∈ os, OffP o := by
  have := h.os _ (List.mem_singleton.2 rfl)
  exact ⟨Nat.le_trans this.1 (by decide), this.2⟩
theorem NeedsP.bounds {ns : List (Want × Value)} (h : NeedsP ns) : ∀ x ∈ ns, x.1.bs.length ≤ 1000 ∧ ∀ b ∈ x.1.bs, b.v.p.size ≤ 300 := fun x hx => by
  obtain ⟨h1, _, h3⟩ := h.2 x hx
  exact ⟨by omega, fun b hb => by have := h3 b hb; omega⟩
theorem OffP.pre {o : DOff} (h : OffP o) : o.v.p.size ≤ 300 := by have := h.1; omega
/-- what the region looks at -/
def PkAt (b : Nat) (nm : ByteArray) (ov : Value) (w0 W : World) : Prop := W.cell? ⟨b, 0, none⟩ = some (.string nm) ∧ W.cell? ⟨b, 1, none⟩ = some ov ∧ Below w0.heap.size w0 W
theorem PkAt.on {b : Nat} {nm : ByteArray} {ov : Value} {w0 W W' : World} (h : PkAt b nm ov w0 W) (hb : Below W.heap.size W W') : PkAt b nm ov w0 W' := ⟨cell_on h.1 hb, cell_on h.2.1 hb, below_then h.2.2 hb⟩
end Go
namespace Go.Proofs.YtbihdgnhdlpmgaaGreatDoor
open Go.RowKit Go.Maps
set_option maxRecDepth 100000 in
set_option maxHeartbeats 8000000 in
theorem chOffers_any (nm : ByteArray) (oa : Option Addr) (oc : Nat) (os : List DOff) (lk nv : Value) (lock : List Pik) (needs : List (Want × Value)) (w : World)
    (ho : Offs w (.slice oa os.length oc) os) (hl : Piks w lk lock) (hn : Wants w nv needs) (hE : Env w) :
    Calls Tryz.prog 3 #[.agg #[.string nm, .slice oa os.length oc], lk, nv] w fun e w' => e = .returned (.bool true) ∧ Below w.heap.size w w' := by
  obtain ⟨a1, cap1, rfl⟩ := hl.len
  obtain ⟨_, a2, cap2, rfl⟩ := hn.len
  have hx1 := Below.refl (w.heap.size + 1) (w.alloc (.cells #[.string nm, .slice oa os.length oc] 24))
  have hW1 := below_first hx1
  have s1 : (w.alloc (.cells #[.string nm, .slice oa os.length oc] 24)).heap.size = w.heap.size + 1 := by simp
  have hW2 := hW1.alloc hW1.size (.cells #[.string nm, .slice oa os.length oc] 24)
  have hpk := Below_heap_new (w.alloc (.cells #[.string nm, .slice oa os.length oc] 24)) (.cells #[.string nm, .slice oa os.length oc] 24)
  rw [s1] at hpk
  have hSm := Lib.hid (small_any (.slice (some ⟨w.heap.size + 1, 0, none⟩) 1 1) (.slice a1 lock.length cap1) (.slice a2 needs.length cap2) [⟨nm, os, oa, oc⟩] lock needs _
    ⟨row_blk (n := 1) (xs := [DPack.mk nm os oa oc].flatMap DPack.cells) hpk rfl rfl (by decide) (by unfold maxLen; decide), fun p hp => by simp at hp; subst hp; exact ⟨ho.below hW2 (Nat.le_refl _), _, _, rfl⟩⟩ (hl.below hW2 (Nat.le_refl _)) (hn.below hW2 (Nat.le_refl _)))
  have c0 := box_cells hx1 0
  have c1 := box_cells hx1 1
  simp only [List.getElem?_toArray, List.getElem?_cons_zero, List.getElem?_cons_succ] at c0 c1
  have HO := Lib.hid ho
  have HL := Lib.hid hl
  have HN := Lib.hid hn
  have HE := Lib.hid hE
  have HX := Lib.hid hx1
  have HW2 := Lib.hid hW2
  clear ho hl hn hE hx1 hW1 hpk s1 hW2
  go_enter Tryz.func3, Tryz.ntmps3
  go_wp2_with fail
  refine hSm.out.mono ?_
  rintro e w2 ⟨⟨b, rfl, hb⟩, hbw⟩
  have hb2 := HW2.out.trans (hbw.mono HW2.out.size)
  have hx2 := HX.out.trans ((((Below.refl _ _).alloc (Nat.le_refl _) _).trans (hbw.mono (by simp))).mono (by simp))
  cases b
  · have HA := Lib.hid (awake_any w2 (HE.out.below hb2))
    clear hb c0 c1
    go_wp2_with fail
    refine HA.out.mono ?_
    rintro e w3 ⟨rfl, hb3⟩
    have hb4 := below_then hb2 hb3
    go_wp2_with fail
    go_ret
    exact ⟨rfl, hb4⟩
  · have hsm := hb rfl
    have d0 := box_cells hx2 0
    have d1 := box_cells hx2 1
    simp only [List.getElem?_toArray, List.getElem?_cons_zero, List.getElem?_cons_succ] at d0 d1
    have hst : PkAt w.heap.size nm (.slice oa os.length oc) w2.drew w2.drew := ⟨cell_on d0 (Below.refl _ _).drew, cell_on d1 (Below.refl _ _).drew, Below.refl _ _⟩
    have hd2 : Below w.heap.size w w2.drew := hb2.drew
    have hin : ∀ W, Below w2.drew.heap.size w2.drew W → Below w.heap.size w W := fun W h => below_then hd2 h
    have HOf : Hid (∀ W, Below w2.drew.heap.size w2.drew W → Calls Tryz.prog 12 #[.agg #[.string nm, .slice oa os.length oc], .slice a1 lock.length cap1, .slice a2 needs.length cap2] W (OffersPost lock nm needs os W)) := fun W h =>
      offers_any nm _ os _ lock _ needs W (HO.out.below (hin W h) (Nat.le_refl _)) (HL.out.below (hin W h) (Nat.le_refl _)) (HN.out.below (hin W h) (Nat.le_refl _)) (HE.out.below (hin W h)) hsm.pack.1 (fun o ho => (hsm.pack.2 o ho).pre) hsm.nd.bounds
    have HRf : Hid (∀ W, Below w2.drew.heap.size w2.drew W → Calls Tryz.prog 13 #[.agg #[.string nm, .slice oa os.length oc], .slice a1 lock.length cap1, .slice a2 needs.length cap2] W (OffersPost lock nm needs os W)) := fun W h =>
      roffers_any nm _ os _ lock _ needs W (HO.out.below (hin W h) (Nat.le_refl _)) (HL.out.below (hin W h) (Nat.le_refl _)) (HN.out.below (hin W h) (Nat.le_refl _)) hsm.pack.1 (fun o ho => (hsm.pack.2 o ho).pre) hsm.nd.bounds
    have HCk : Hid (∀ W, Below w2.drew.heap.size w2.drew W → Calls Tryz.prog 14 #[.slice a2 needs.length cap2] W fun e w' => e = .returned (.int .i64 (needErr needs)) ∧ Below W.heap.size W w') := fun W h =>
      chCheck_any _ needs W (HN.out.below (hin W h) (Nat.le_refl _)) (HE.out.below (hin W h)) (fun x hx => (hsm.nd.bounds x hx).2)
    have HRk : Hid (∀ W, Below w2.drew.heap.size w2.drew W → Calls Tryz.prog 15 #[.slice a2 needs.length cap2] W fun e w' => e = .returned (.int .i64 (needErr needs)) ∧ Below W.heap.size W w') := fun W h =>
      rchCheck_any _ needs W (HN.out.below (hin W h) (Nat.le_refl _)) (fun x hx => (hsm.nd.bounds x hx).2)
    have HAw : Hid (∀ W, Below w2.drew.heap.size w2.drew W → Calls Tryz.prog 10 #[] W fun e w' => e = .returned (.bool true) ∧ Below W.heap.size W w') := fun W h => awake_any W (HE.out.below (hin W h))
    have HD2 := Lib.hid hd2
    have HSs : Hid (∀ out, ChoiceIs lock nm needs os out → out.length ≤ 1000000 ∧ ∀ W, Below w2.drew.heap.size w2.drew W → ∀ o ∈ out, o.ok W) := fun out h => ⟨Nat.le_trans h.len hsm.pack.1, fun W hW o ho => by
      rcases selL_sub _ _ (h.1.mem_iff.1 ho) with h' | h'
      · cases h'
      · exact (HO.out.2 o h').below (hin W hW) (Nat.le_refl _)⟩
    obtain ⟨er, her⟩ : ∃ e, needErr needs = e := ⟨_, rfl⟩
    rw [her] at HCk HRk
    clear hb c0 c1 d0 d1 hsm hin hd2 hbw hx2 hb2 her
    go_wp2_with fail
    refine wp_region_held_drew (S := (fun W => PkAt w.heap.size nm (.slice oa os.length oc) w2.drew W)) (by kernel_rfl) (hst) (fun hHeld => ?_)
    refine wpAnyH_take (i := 0) (v := ?_) rfl (by kernel_rfl) (by kernel_rfl) (by kernel_rfl) (fun _ _ _ h => h) (Or.inl ⟨by kernel_rfl, ?_⟩) hHeld ?_
    rotate_left
    · (rintro W ⟨e0, e1, _⟩; go_simp; (try with_reducible rfl))
    (try simp only [Act.put, List.getElem_toArray, List.getElem_cons_zero, List.setIfInBounds_toArray, List.set_cons_succ, List.set_cons_zero])
    refine wpAnyH_take (i := 1) (v := ?_) rfl (by kernel_rfl) (by kernel_rfl) (by kernel_rfl) (fun _ _ _ h => h) (Or.inl ⟨by kernel_rfl, ?_⟩) hHeld ?_
    rotate_left
    · (rintro W ⟨e0, e1, _⟩; go_simp; (try with_reducible rfl))
    (try simp only [Act.put, List.getElem_toArray, List.getElem_cons_succ, List.getElem_cons_zero, List.setIfInBounds_toArray, List.set_cons_succ, List.set_cons_zero])
    refine wpAnyH_take (i := 2) (v := ?_) rfl (by kernel_rfl) (by kernel_rfl) (by kernel_rfl) (fun _ _ _ h => h) (Or.inl ⟨by kernel_rfl, ?_⟩) hHeld ?_
    rotate_left
    · (rintro W ⟨e0, e1, _⟩; go_simp; (try with_reducible rfl))
    (try simp only [Act.put, List.getElem_toArray, List.getElem_cons_succ, List.getElem_cons_zero, List.setIfInBounds_toArray, List.set_cons_succ, List.set_cons_zero])
    refine wpAnyH_take (i := 4) (v := ?_) rfl (by kernel_rfl) (by kernel_rfl) (by kernel_rfl) (fun _ _ _ h => h) (Or.inl ⟨by kernel_rfl, ?_⟩) hHeld ?_
    rotate_left
    · (rintro W ⟨e0, e1, _⟩; go_simp; (try with_reducible rfl))
    (try simp only [Act.put, List.getElem_toArray, List.getElem_cons_succ, List.getElem_cons_zero, List.setIfInBounds_toArray, List.set_cons_succ, List.set_cons_zero])
    refine wpAnyH_take (i := 5) (v := ?_) rfl (by kernel_rfl) (by kernel_rfl) (by kernel_rfl) (fun _ _ _ h => h) (Or.inl ⟨by kernel_rfl, ?_⟩) hHeld ?_
    rotate_left
    · (rintro W ⟨e0, e1, _⟩; go_simp; (try with_reducible rfl))
    (try simp only [Act.put, List.getElem_toArray, List.getElem_cons_succ, List.getElem_cons_zero, List.setIfInBounds_toArray, List.set_cons_succ, List.set_cons_zero])
    refine wpAnyH_take (i := 6) (v := ?_) rfl (by kernel_rfl) (by kernel_rfl) (by kernel_rfl) (fun _ _ _ h => h) (Or.inl ⟨by kernel_rfl, ?_⟩) hHeld ?_
    rotate_left
    · (rintro W ⟨e0, e1, _⟩; go_simp; (try with_reducible rfl))
    (try simp only [Act.put, List.getElem_toArray, List.getElem_cons_succ, List.getElem_cons_zero, List.setIfInBounds_toArray, List.set_cons_succ, List.set_cons_zero])
    refine wpAnyH_ready (rs := [3]) (by kernel_rfl) (by simp) ?_
    refine AllReadyH.cons rfl (fun K hK => ?_) AllReadyH.nil
    go_simp
    refine (HOf.out _ hHeld.2.2).mono ?_
    rintro e w3 ⟨x, out, rfl, hch, hrow, hk3, _⟩
    obtain ⟨_, xa, xc, rfl⟩ := hrow.len
    have HR3 := Lib.hid (⟨hch, hrow⟩ : _ ∧ _)
    clear hch hrow
    refine hK.out _ _ (hHeld.on hk3) (fun hHeld => ?_)
    clear hK K
    (try simp only [Act.put, List.getElem_toArray, List.getElem_cons_succ, List.getElem_cons_zero, List.setIfInBounds_toArray, List.set_cons_succ, List.set_cons_zero])
    refine wpAnyH_ready (rs := [7]) (by kernel_rfl) (by simp) ?_
    refine AllReadyH.cons rfl (fun K hK => ?_) AllReadyH.nil
    go_simp
    refine (HRf.out _ hHeld.2.2).mono ?_
    rintro e w4 ⟨x, out', rfl, hch, hrow, hk4, _⟩
    obtain ⟨_, ya, yc, rfl⟩ := hrow.len
    obtain rfl := hch.uniq HR3.out.1
    have HR4 := Lib.hid hrow
    have HR3' := Lib.hid (ORow.below HR3.out.2 hk4 (Nat.le_refl _))
    have hS4 := hHeld.on hk4
    clear hch hrow
    refine hK.out _ _ (hS4) (fun hHeld => ?_)
    clear hK K
    (try simp only [Act.put, List.getElem_toArray, List.getElem_cons_succ, List.getElem_cons_zero, List.setIfInBounds_toArray, List.set_cons_succ, List.set_cons_zero])
    refine wpAnyH_ready (rs := [8]) (by kernel_rfl) (by simp) ?_
    refine AllReadyH.cons rfl (fun K hK => ?_) AllReadyH.nil
    go_simp
    have hok := HSs.out _ HR3.out.1
    refine (rsameO_any _ _ out' out' _ ⟨HR3'.out, hok.2 _ hHeld.2.2⟩ ⟨HR4.out, hok.2 _ hHeld.2.2⟩ rfl (fun k h h' => SimO.refl _) hok.1).mono ?_
    rintro e w5 ⟨rfl, hk5⟩
    clear hok
    refine hK.out _ _ (hHeld.on hk5) (fun hHeld => ?_)
    clear hK K
    (try simp only [Act.put, List.getElem_toArray, List.getElem_cons_succ, List.getElem_cons_zero, List.setIfInBounds_toArray, List.set_cons_succ, List.set_cons_zero])
    refine wpAnyH_take (i := 9) (v := ?_) rfl (by kernel_rfl) (by kernel_rfl) (by kernel_rfl) (fun _ _ _ h => h) (Or.inl ⟨by kernel_rfl, ?_⟩) hHeld ?_
    rotate_left
    · (rintro W ⟨e0, e1, _⟩; go_simp; (try with_reducible rfl))
    (try simp only [Act.put, List.getElem_toArray, List.getElem_cons_succ, List.getElem_cons_zero, List.setIfInBounds_toArray, List.set_cons_succ, List.set_cons_zero])
    refine wpAnyH_take (i := 10) (v := ?_) rfl (by kernel_rfl) (by kernel_rfl) (by kernel_rfl) (fun _ _ _ h => h) (Or.inl ⟨by kernel_rfl, ?_⟩) hHeld ?_
    rotate_left
    · (rintro W ⟨e0, e1, _⟩; go_simp; (try with_reducible rfl))
    (try simp only [Act.put, List.getElem_toArray, List.getElem_cons_succ, List.getElem_cons_zero, List.setIfInBounds_toArray, List.set_cons_succ, List.set_cons_zero])
    refine wpAnyH_take (i := 12) (v := ?_) rfl (by kernel_rfl) (by kernel_rfl) (by kernel_rfl) (fun _ _ _ h => h) (Or.inl ⟨by kernel_rfl, ?_⟩) hHeld ?_
    rotate_left
    · (rintro W ⟨e0, e1, _⟩; go_simp; (try with_reducible rfl))
    (try simp only [Act.put, List.getElem_toArray, List.getElem_cons_succ, List.getElem_cons_zero, List.setIfInBounds_toArray, List.set_cons_succ, List.set_cons_zero])
    refine wpAnyH_ready (rs := [11]) (by kernel_rfl) (by simp) ?_
    refine AllReadyH.cons rfl (fun K hK => ?_) AllReadyH.nil
    go_simp
    refine (HCk.out _ hHeld.2.2).mono ?_
    rintro e w6 ⟨rfl, hk6⟩
    refine hK.out _ _ (hHeld.on hk6) (fun hHeld => ?_)
    clear hK K
    (try simp only [Act.put, List.getElem_toArray, List.getElem_cons_succ, List.getElem_cons_zero, List.setIfInBounds_toArray, List.set_cons_succ, List.set_cons_zero])
    refine wpAnyH_ready (rs := [13]) (by kernel_rfl) (by simp) ?_
    refine AllReadyH.cons rfl (fun K hK => ?_) AllReadyH.nil
    go_simp
    refine (HRk.out _ hHeld.2.2).mono ?_
    rintro e w7 ⟨rfl, hk7⟩
    refine hK.out _ _ (hHeld.on hk7) (fun hHeld => ?_)
    clear hK K
    (try simp only [Act.put, List.getElem_toArray, List.getElem_cons_succ, List.getElem_cons_zero, List.setIfInBounds_toArray, List.set_cons_succ, List.set_cons_zero])
    refine wpAnyH_take (i := 14) (v := ?_) rfl (by kernel_rfl) (by kernel_rfl) (by kernel_rfl) (fun _ _ _ h => h) (Or.inl ⟨by kernel_rfl, ?_⟩) hHeld ?_
    rotate_left
    · (rintro W ⟨e0, e1, _⟩; go_simp; (try with_reducible rfl))
    (try simp only [Act.put, List.getElem_toArray, List.getElem_cons_succ, List.getElem_cons_zero, List.setIfInBounds_toArray, List.set_cons_succ, List.set_cons_zero])
    refine wpAnyH_take (i := 15) (v := ?_) rfl (by kernel_rfl) (by kernel_rfl) (by kernel_rfl) (fun _ _ _ h => h) (Or.inl ⟨by kernel_rfl, ?_⟩) hHeld ?_
    rotate_left
    · (rintro W ⟨e0, e1, _⟩; go_simp; (try with_reducible rfl))
    (try simp only [Act.put, List.getElem_toArray, List.getElem_cons_succ, List.getElem_cons_zero, List.setIfInBounds_toArray, List.set_cons_succ, List.set_cons_zero])
    refine wpAnyH_take (i := 16) (v := ?_) rfl (by kernel_rfl) (by kernel_rfl) (by kernel_rfl) (fun _ _ _ h => h) (Or.inl ⟨by kernel_rfl, ?_⟩) hHeld ?_
    rotate_left
    · (rintro W ⟨e0, e1, _⟩; go_simp; (try with_reducible rfl))
    (try simp only [Act.put, List.getElem_toArray, List.getElem_cons_succ, List.getElem_cons_zero, List.setIfInBounds_toArray, List.set_cons_succ, List.set_cons_zero])
    refine wpAnyH_ready (rs := [17]) (by kernel_rfl) (by simp) ?_
    refine AllReadyH.cons rfl (fun K hK => ?_) AllReadyH.nil
    go_simp
    refine (HAw.out _ hHeld.2.2).mono ?_
    rintro e w8 ⟨rfl, hk8⟩
    refine hK.out _ _ (hHeld.on hk8) (fun hHeld => ?_)
    clear hK K
    (try simp only [Act.put, List.getElem_toArray, List.getElem_cons_succ, List.getElem_cons_zero, List.setIfInBounds_toArray, List.set_cons_succ, List.set_cons_zero])
    refine wpAnyH_take (i := 18) (v := ?_) rfl (by kernel_rfl) (by kernel_rfl) (by kernel_rfl) (fun _ _ _ h => h) (Or.inl ⟨by kernel_rfl, ?_⟩) hHeld ?_
    rotate_left
    · (rintro W ⟨e0, e1, _⟩; go_simp; (try with_reducible rfl))
    (try simp only [Act.put, List.getElem_toArray, List.getElem_cons_succ, List.getElem_cons_zero, List.setIfInBounds_toArray, List.set_cons_succ, List.set_cons_zero])
    refine wpAnyH_take (i := 19) (v := ?_) rfl (by kernel_rfl) (by kernel_rfl) (by kernel_rfl) (fun _ _ _ h => h) (Or.inl ⟨by kernel_rfl, ?_⟩) hHeld ?_
    rotate_left
    · (rintro W ⟨e0, e1, _⟩; go_simp; (try with_reducible rfl))
    (try simp only [Act.put, List.getElem_toArray, List.getElem_cons_succ, List.getElem_cons_zero, List.setIfInBounds_toArray, List.set_cons_succ, List.set_cons_zero])
    refine wpAnyH_done (by kernel_rfl) ?_ _
    have hb3 := HD2.out.trans (hHeld.2.2.mono HD2.out.size)
    go_wp2_with fail
    go_ret
    exact ⟨rfl, hb3⟩
end Go.Proofs.YtbihdgnhdlpmgaaGreatDoor
