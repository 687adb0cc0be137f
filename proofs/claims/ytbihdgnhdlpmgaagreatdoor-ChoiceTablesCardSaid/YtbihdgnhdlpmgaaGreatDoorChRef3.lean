/- The reference of choices: Offers: a walk. -/
import Derived.Test.YtbihdgnhdlpmgaaGreatDoorChOffers
import Derived.Test.YtbihdgnhdlpmgaaGreatDoorChIns
import Derived.Test.YtbihdgnhdlpmgaaGreatDoorTabLast
import Derived.Deep.CutBlock
import Derived.Deep.AppendLies
namespace Go.Proofs.YtbihdgnhdlpmgaaGreatDoor
open Go.RowKit
def RoRel (lock : List Pik) (nm : ByteArray) (needs : List (Want × Value)) (os : List DOff) (W1 : World) (v i : Value) (wr : World) : Prop :=
  ∃ (k : Nat) (out : List DOff), k ≤ os.length ∧ i = .int .i64 (k : Int) ∧ InsOk lock nm out (selL lock nm needs (os.take k)) ∧ out.length ≤ k ∧ wr.ownsRow W1.heap.size 48 6 v out.length (out.flatMap DOff.cells) ∧ Below W1.heap.size W1 wr
def RtRel (out : List DOff) (o : DOff) (w2 : World) (x i : Value) (wr : World) : Prop :=
  ∃ (k : Nat) (b : Bool), k ≤ out.length ∧ i = .int .i64 (k : Int) ∧ x = .bool b ∧ b = thereB (out.take k) o ∧ Below w2.heap.size w2 wr
def RaRel (lock : List Pik) (nm : ByteArray) (out : List DOff) (o : DOff) (w2 : World) (i : Value) (wr : World) : Prop :=
  ∃ k : Nat, k ≤ out.length ∧ i = .int .i64 (k : Int) ∧ (∀ j (hj : j < out.length), j < k → 0 ≤ cmpO lock nm o out[j]) ∧ Below w2.heap.size w2 wr
/-- what the region that puts one in looks at -/
def OfS (b : Nat) (o : DOff) (w0 W : World) : Prop := OffAt W b o ∧ Below w0.heap.size w0 W
set_option maxRecDepth 100000 in
set_option maxHeartbeats 8000000 in
theorem roffers_any (nm : ByteArray) (ov : Value) (os : List DOff) (lk : Value) (lock : List Pik) (nv : Value) (needs : List (Want × Value)) (w : World)
    (ho : Offs w ov os) (hl : Piks w lk lock) (hn : Wants w nv needs) (hos : os.length ≤ 1000000) (hop : ∀ o ∈ os, o.v.p.size ≤ 300) (hnd : ∀ x ∈ needs, x.1.bs.length ≤ 1000 ∧ ∀ b ∈ x.1.bs, b.v.p.size ≤ 300) :
    Calls Tryz.prog 13 #[.agg #[.string nm, ov], lk, nv] w (OffersPost lock nm needs os w) := by
  obtain ⟨a0, cap0, rfl⟩ := ho.1.len.2
  obtain ⟨a1, cap1, rfl⟩ := hl.len
  obtain ⟨hmx, a2, cap2, rfl⟩ := hn.len
  have hmx1 : os.length ≤ 9223372036854775807 := by omega
  have hx1 := Below.refl (w.heap.size + 1) (w.alloc (.cells #[.string nm, .slice a0 os.length cap0] 24))
  have hW := below_first hx1
  have c0 := box_cells hx1 0
  have c1 := box_cells hx1 1
  simp only [List.getElem?_toArray, List.getElem?_cons_zero, List.getElem?_cons_succ] at c0 c1
  have HO := Lib.hid (ho.below hW (Nat.le_refl _))
  have HN := Lib.hid (hn.below hW (Nat.le_refl _))
  have HL := Lib.hid (hl.below hW (Nat.le_refl _))
  have HP0 := Lib.hid c0
  have HP1 := Lib.hid c1
  have HOp := Lib.hid hop
  have HNd := Lib.hid hnd
  have HI := Lib.hid info_offer
  have HW := Lib.hid hW
  clear ho hl hn hx1 hop hnd hW hmx c0 c1
  go_enter Tryz.func13, Tryz.ntmps13
  go_wp2_with fail
  generalize (w.alloc (.cells #[.string nm, .slice a0 os.length cap0] 24)) = W1 at *
  go_loopw [7, 8] (fun v i wr => RoRel lock nm needs os W1 v i wr) (fun _ i _ => os.length - (intOf i).toNat)
  case atStart => exact ⟨0, [], Nat.zero_le _, rfl, ⟨List.Perm.nil, List.Pairwise.nil⟩, Nat.zero_le _, World.ownsRow_nil _ _ _ _, Below.refl _ _⟩
  case round =>
    obtain ⟨k, out, hk, rfl, hins, hol, hown, hb⟩ := hrel
    obtain ⟨va, vcap, rfl⟩ := owns_len hown
    have HIn := Lib.hid hins
    have HOw := Lib.hid hown
    have e0 := cell_on HP0.out hb
    have e1 := cell_on HP1.out hb
    have hz := cell_lt e0
    clear hins hown
    by_cases hlt : k < os.length
    · have i0 : (0 : Int) ≤ (k : Int) := by omega
      have i1 : (k : Int) < (os.length : Int) := by omega
      obtain ⟨bx, ox, rfl, hbx, c0, c1, c2, c3, c4, c5⟩ := HO.out.1.at' hb hlt
      have HT := Lib.hid (List.take_succ_eq_append_getElem hlt)
      have hmem := List.getElem_mem hlt
      obtain ⟨o, hxe⟩ : ∃ o, os[k] = o := ⟨_, rfl⟩
      rw [hxe] at c0 c1 c2 c3 c4 c5 HT hmem
      have hop := HOp.out o hmem
      have r5 : Sem.run Tryz.prog (store ⟨wr.heap.size, 5, none⟩ o.nv) (wr.alloc (.cells #[.int .i64 o.v.a, .int .i64 o.v.b, .int .i64 o.v.c, .string o.v.p, .bool o.y, .slice none 0 0] 48)) = .ok () (wr.alloc (.cells #[.int .i64 o.v.a, .int .i64 o.v.b, .int .i64 o.v.c, .string o.v.p, .bool o.y, o.nv] 48)) := by
        unfold DOff.nv; go_simp
      have HSt : Hid (selL lock nm needs (os.take (k + 1)) = selStep lock nm needs (selL lock nm needs (os.take k)) o) := by
        show _ = _
        rw [HT.out]; unfold selL; rw [List.foldl_append]; rfl
      clear hxe hmem
      have hw1 : Below (wr.heap.size + 1) (wr.alloc (.cells #[.int .i64 o.v.a, .int .i64 o.v.b, .int .i64 o.v.c, .string o.v.p, .bool o.y, o.nv] 48)) (wr.alloc (.cells #[.int .i64 o.v.a, .int .i64 o.v.b, .int .i64 o.v.c, .string o.v.p, .bool o.y, o.nv] 48)) := Below.refl _ _
      have HO1 := Lib.hid (offAt_new hw1)
      have hb1 := below_then hb (below_first hw1)
      have HOw1 := Lib.hid (owns_below HOw.out (below_first hw1))
      have hbz : wr.heap.size < (wr.alloc (.cells #[.int .i64 o.v.a, .int .i64 o.v.b, .int .i64 o.v.c, .string o.v.p, .bool o.y, o.nv] 48)).heap.size := by simp
      clear hw1
      go_wp2_with fail
      generalize (wr.alloc (.cells #[.int .i64 o.v.a, .int .i64 o.v.b, .int .i64 o.v.c, .string o.v.p, .bool o.y, o.nv] 48)) = w2 at *
      obtain ⟨b9, hb9⟩ : ∃ b, wr.heap.size = b := ⟨_, rfl⟩
      rw [hb9] at HO1 hbz ⊢
      clear c0 c1 c2 c3 c4 c5 r5 e0 e1 hz hb HOw
      go_loopw [10, 11] (fun x i wy => RtRel out o w2 x i wy) (fun _ i _ => out.length - (intOf i).toNat)
      case atStart => exact ⟨0, false, Nat.zero_le _, rfl, rfl, rfl, Below.refl _ _⟩
      case round =>
        obtain ⟨m, th, hm, rfl, rfl, hth, hb2⟩ := hrel
        have HTh := Lib.hid hth
        clear hth
        by_cases hlt2 : m < out.length
        · have j0 : (0 : Int) ≤ (m : Int) := by omega
          have j1 : (m : Int) < (out.length : Int) := by omega
          have HT2 := Lib.hid (List.take_succ_eq_append_getElem hlt2)
          cases th
          · obtain ⟨bg, og, rfl, hbg, c0, c1, c2, c3, _⟩ := (ORow.of_owns HOw1.out).at' hb2 hlt2
            obtain ⟨x, hxe⟩ : ∃ x, out[m] = x := ⟨_, rfl⟩
            rw [hxe] at c0 c1 c2 c3 HT2
            clear hxe
            obtain ⟨r, hr⟩ : ∃ r, V4.same x.v o.v = r := ⟨_, rfl⟩
            have r1 := fun W => ver_eq x.v.a x.v.b x.v.c x.v.p o.v.a o.v.b o.v.c o.v.p r hr.symm W
            have HR := Lib.hid hr
            obtain ⟨⟨d0, d1, d2, d3⟩, _, _⟩ := HO1.out.on hb2
            have hz := cell_lt d0
            clear hr
            go_wp2_with fail
            go_quiet (fail)
            go_wp2_with fail
            go_roundw
            case rel =>
              refine ⟨m + 1, r, hlt2, by go_num, rfl, ?_, below_drewN hb2 _⟩
              rw [HT2.out]; unfold thereB at HTh ⊢; rw [List.any_append, ← HTh.out]; simp [HR.out]
            case measure => simp [intOf]; omega
          · go_wp2_with fail
            go_quiet (fail)
            go_wp2_with fail
            go_roundw
            case rel =>
              refine ⟨m + 1, true, hlt2, by go_num, rfl, ?_, below_drewN hb2 _⟩
              rw [HT2.out]; unfold thereB at HTh ⊢; rw [List.any_append, ← HTh.out]; rfl
            case measure => simp [intOf]; omega
        · have q6 : decide (m < out.length) = false := decide_eq_false hlt2
          have HTo : Hid (thereB out o = th) := by
            show _ = _
            have := HTh.out
            rw [List.take_of_length_le (by omega)] at this
            exact this.symm
          have hb3 := below_then hb1 hb2
          have HOw3 := Lib.hid (owns_below HOw1.out hb2)
          have HO3 := Lib.hid (HO1.out.on hb2)
          have f0 := cell_on HP0.out hb3
          have hz := cell_lt f0
          clear hlt2
          cases th
          case true =>
            have HS2 := Lib.hid (ins_skip (needs := needs) HIn.out (.inl HTo.out))
            go_wp2_with fail
            go_roundw
            case rel => exact ⟨k + 1, out, hlt, by go_num, by rw [HSt.out]; exact HS2.out, by omega, HOw3.out, hb3⟩
            case measure => simp [intOf]; omega
          case false =>
            obtain ⟨ft, hft⟩ : ∃ ft, fitO lock nm needs o = ft := ⟨_, rfl⟩
            have HC := Lib.hid (rchoice_as nm o (.slice a1 lock.length cap1) lock (.slice a2 needs.length cap2) needs ft hft wr (HL.out.below hb3 (Nat.le_refl _)) (HN.out.below hb3 (Nat.le_refl _)) hop HNd.out)
            have HFt := Lib.hid hft
            clear hft
            obtain ⟨⟨v0, v1, v2, v3⟩, v4, v5⟩ := HO3.out
            have hz9 := cell_lt v0
            cases ft
            · have HS2 := Lib.hid (ins_skip (needs := needs) HIn.out (.inr HFt.out))
              go_wp2_with fail
              refine HC.out.mono ?_
              rintro e w4 ⟨rfl, hb4⟩
              have hb5 := below_then hb3 hb4
              have hown5 := owns_below HOw3.out hb4
              clear v0 v1 v2 v3 v4 v5 f0 hb4
              go_wp2_with fail
              go_roundw
              case rel => exact ⟨k + 1, out, hlt, by go_num, by rw [HSt.out]; exact HS2.out, by omega, hown5, hb5⟩
              case measure => simp [intOf]; omega
            · go_wp2_with fail
              refine HC.out.mono ?_
              rintro e w4 ⟨rfl, hb4⟩
              have hb5 := below_then hb3 hb4
              have HOw5 := Lib.hid (owns_below HOw3.out hb4)
              have HO5 := Lib.hid (HO3.out.on hb4)
              have HFit := Lib.hid (fun x (hx : x ∈ selL lock nm needs (os.take k)) => (sel_ok (lock := lock) (nm := nm) (needs := needs) (os := os.take k)).1 x hx)
              clear v0 v1 v2 v3 v4 v5 f0 hb4
              go_upto_block 4 with fail
              go_cut [12] from 52 to 69 (fun x wy => ∃ j : Nat, j ≤ out.length ∧ x = .int .i64 (j : Int) ∧ InsOk lock nm (insAt out o j) (selL lock nm needs (os.take (k + 1))) ∧ Below w4.heap.size w4 wy)
              case first =>
                go_wp2_with fail
                go_loopw [12] (fun i wy => RaRel lock nm out o w4 i wy) (fun i _ => out.length - (intOf i).toNat)
                case atStart => exact ⟨0, Nat.zero_le _, rfl, fun j _ h => absurd h (Nat.not_lt_zero _), Below.refl _ _⟩
                case round =>
                  obtain ⟨j, hj, rfl, hbef, hb6⟩ := hrel
                  have HBe := Lib.hid hbef
                  clear hbef
                  have hb7 := below_then hb5 hb6
                  by_cases hlt3 : j < out.length
                  · have j0 : (0 : Int) ≤ (j : Int) := by omega
                    have j1 : (j : Int) < (out.length : Int) := by omega
                    obtain ⟨bg, og, rfl, hbg, c0, c1, c2, c3, c4, c5⟩ := (ORow.of_owns HOw5.out).at' hb6 hlt3
                    have hmem := List.getElem_mem hlt3
                    obtain ⟨x, hxe⟩ : ∃ x, out[j] = x := ⟨_, rfl⟩
                    rw [hxe] at c0 c1 c2 c3 c4 c5 hmem
                    have hxs : x.v.p.size ≤ 300 := HOp.out x (List.mem_of_mem_take (sel_mem (HIn.out.1.mem_iff.1 hmem)))
                    obtain ⟨⟨v0, v1, v2, v3⟩, v4, v5⟩ := HO5.out.on hb6
                    have f0 := cell_on HP0.out hb7
                    have hz0 := cell_lt f0
                    have hz1 := cell_lt v0
                    obtain ⟨q, hq⟩ : ∃ q, decide (cmpO lock nm o x < 0) = q := ⟨_, rfl⟩
                    have HA := Lib.hid (rahead_as nm o x (.slice a1 lock.length cap1) lock q hq wr.drew (HL.out.below hb7.drew (Nat.le_refl _)) hop hxs)
                    have HX := Lib.hid hxe
                    have HQ := Lib.hid hq
                    clear hxe hmem hq
                    go_wp2_with fail
                    refine region_still_tail 13 (by kernel_rfl) (by kernel_rfl) ?_
                    simp only [List.take_succ_cons, List.take_zero, List.drop_succ_cons, List.drop_zero]
                    repeat still_step
                    refine wpStill_nil ?_
                    go_wp2_with fail
                    refine HA.out.mono ?_
                    rintro e w5 ⟨rfl, hb8⟩
                    have hb9 := below_then hb6.drew hb8
                    clear c0 c1 c2 c3 c4 c5 v0 v1 v2 v3 v4 v5 f0 hb8
                    cases q
                    · go_wp2_with fail
                      go_roundw
                      case rel =>
                        refine ⟨j + 1, hlt3, by go_num, fun i hi hij => ?_, hb9⟩
                        by_cases h : i < j
                        · exact HBe.out i hi h
                        · have : i = j := by omega
                          subst this
                          rw [HX.out]; have := of_decide_eq_false HQ.out; omega
                      case measure => simp [intOf]; omega
                    · go_wp2_with fail
                      go_meet
                      case rel =>
                        refine ⟨j, Nat.le_of_lt hlt3, rfl, ?_, hb9⟩
                        rw [HSt.out]
                        exact ins_step HIn.out HFit.out HTo.out HFt.out (Nat.le_of_lt hlt3) (fun i hi h => Int.not_lt.2 (HBe.out i hi h)) (fun hi => by rw [HX.out]; exact of_decide_eq_true HQ.out)
                  · have q6 : decide (j < out.length) = false := decide_eq_false hlt3
                    go_wp2_with fail
                    go_quiet (fail)
                    go_wp2_with fail
                    go_meet
                    case rel =>
                      refine ⟨j, hj, rfl, ?_, below_drewN hb6 _⟩
                      rw [HSt.out]
                      exact ins_step HIn.out HFit.out HTo.out HFt.out hj (fun i hi h => Int.not_lt.2 (HBe.out i hi h)) (fun hi => absurd hi hlt3)
              case rest =>
                obtain ⟨j, hj, rfl, hins2, hb6⟩ := hcut
                have HIn2 := Lib.hid hins2
                have hb7 := below_then hb5 hb6
                have HOw6 := Lib.hid (owns_below HOw5.out hb6)
                have hst : OfS b9 o wc.drew wc.drew := ⟨HO5.out.on hb6.drew, Below.refl _ _⟩
                clear hins2
                have hwc := HOw6.out
                have HI0 := HI.out
                obtain ⟨i0', hi, hz0, hz1, hz2⟩ : ∃ i, Tryz.prog.info? 48 = some i ∧ i.zero = some (.agg #[.int .i64 0, .int .i64 0, .int .i64 0, .string ⟨#[]⟩, .bool false, .slice none 0 0]) ∧ i.size = 6 ∧ i.bytes = 72 := by
                  have := HI.out
                  rcases h : Tryz.prog.info? 48 with _ | i
                  · rw [h] at this; cases this
                  · rw [h] at this
                    simp only [Option.map_some, Option.some.injEq, Prod.mk.injEq] at this
                    exact ⟨i, rfl, this.1, this.2.1, this.2.2⟩
                clear HI0 hwc
                have HC0 : Hid (∀ u ∈ o.cells, u.oneCell' = true) := dsix_one o
                have hBw := hb7.drew
                rcases Joins.ownsRow_forms HOw6.out with ⟨hv, h0⟩ | ⟨g, cap, hv⟩
                · injection hv with q1 _ q3
                  subst q1 q3
                  have ho0 : out = [] := List.eq_nil_of_length_eq_zero h0
                  subst ho0
                  have hj0 : j = 0 := by simpa using hj
                  subst hj0
                  go_wp2_with fail
                  refine wp_region_held_drew (S := (fun W => OfS b9 o wc.drew W)) (by kernel_rfl) (hst) (fun hHeld => ?_)
                  refine wpAnyH_take (i := 1) (v := ?_) rfl (by kernel_rfl) (by kernel_rfl) (by kernel_rfl) (fun _ _ _ h => h) (Or.inl ⟨by kernel_rfl, ?_⟩) hHeld ?_
                  rotate_left
                  · (rintro W ⟨⟨⟨e0, e1, e2, e3⟩, e4, e5⟩, _⟩; go_simp; (try with_reducible rfl))
                  (try simp only [Act.put, List.getElem_toArray, List.getElem_cons_succ, List.getElem_cons_zero, List.setIfInBounds_toArray, List.set_cons_succ, List.set_cons_zero])
                  refine wpAnyH_take (i := 2) (v := ?_) rfl (by kernel_rfl) (by kernel_rfl) (by kernel_rfl) (fun _ _ _ h => h) (Or.inl ⟨by kernel_rfl, ?_⟩) hHeld ?_
                  rotate_left
                  · (rintro W ⟨⟨⟨e0, e1, e2, e3⟩, e4, e5⟩, _⟩; go_simp; (try with_reducible rfl))
                  (try simp only [Act.put, List.getElem_toArray, List.getElem_cons_succ, List.getElem_cons_zero, List.setIfInBounds_toArray, List.set_cons_succ, List.set_cons_zero])
                  refine wpAnyH_take (i := 3) (v := ?_) rfl (by kernel_rfl) (by kernel_rfl) (by kernel_rfl) (fun _ _ _ h => h) (Or.inl ⟨by kernel_rfl, ?_⟩) hHeld ?_
                  rotate_left
                  · (rintro W ⟨⟨⟨e0, e1, e2, e3⟩, e4, e5⟩, _⟩; go_simp; (try with_reducible rfl))
                  (try simp only [Act.put, List.getElem_toArray, List.getElem_cons_succ, List.getElem_cons_zero, List.setIfInBounds_toArray, List.set_cons_succ, List.set_cons_zero])
                  refine wpAnyH_take (i := 5) (v := ?_) rfl (by kernel_rfl) (by kernel_rfl) (by kernel_rfl) (fun _ _ _ h => h) (Or.inl ⟨by kernel_rfl, ?_⟩) hHeld ?_
                  rotate_left
                  · (rintro W ⟨⟨⟨e0, e1, e2, e3⟩, e4, e5⟩, _⟩; go_simp; (try with_reducible rfl))
                  (try simp only [Act.put, List.getElem_toArray, List.getElem_cons_succ, List.getElem_cons_zero, List.setIfInBounds_toArray, List.set_cons_succ, List.set_cons_zero])
                  refine wpAnyH_take (i := 8) (v := ?_) rfl (by kernel_rfl) (by kernel_rfl) (by kernel_rfl) (fun _ _ _ h => h) (Or.inl ⟨by kernel_rfl, ?_⟩) hHeld ?_
                  rotate_left
                  · (rintro W ⟨⟨⟨e0, e1, e2, e3⟩, e4, e5⟩, _⟩; go_simp; (try with_reducible rfl))
                  (try simp only [Act.put, List.getElem_toArray, List.getElem_cons_succ, List.getElem_cons_zero, List.setIfInBounds_toArray, List.set_cons_succ, List.set_cons_zero])
                  refine wpAnyH_take (i := 9) (v := ?_) rfl (by kernel_rfl) (by kernel_rfl) (by kernel_rfl) (fun _ _ _ h => h) (Or.inl ⟨by kernel_rfl, ?_⟩) hHeld ?_
                  rotate_left
                  · (rintro W ⟨⟨⟨e0, e1, e2, e3⟩, e4, e5⟩, _⟩; go_simp; (try with_reducible rfl))
                  (try simp only [Act.put, List.getElem_toArray, List.getElem_cons_succ, List.getElem_cons_zero, List.setIfInBounds_toArray, List.set_cons_succ, List.set_cons_zero])
                  refine wpAnyH_take (i := 10) (v := ?_) rfl (by kernel_rfl) (by kernel_rfl) (by kernel_rfl) (fun _ _ _ h => h) (Or.inl ⟨by kernel_rfl, ?_⟩) hHeld ?_
                  rotate_left
                  · (rintro W ⟨⟨⟨e0, e1, e2, e3⟩, e4, e5⟩, _⟩; go_simp; (try with_reducible rfl))
                  (try simp only [Act.put, List.getElem_toArray, List.getElem_cons_succ, List.getElem_cons_zero, List.setIfInBounds_toArray, List.set_cons_succ, List.set_cons_zero])
                  generalize wc.drew = X0 at *
                  have hOf := hst.1
                  have hB0 := Below.refl X0.heap.size X0
                  have HL1 : Hid (([] : List Value).length = 0 * 6) := rfl
                  have HL2 : Hid (([] : List Value).length = 0 * 6) := rfl
                  have HM1 : Hid (∀ W, Below X0.heap.size X0 W → (0 = 0 ∨ ∃ ad, (none : Option Addr) = some ad ∧ ∀ (i : Nat) (u : Value), ([] : List Value)[i]? = some u → W.cell? (ad.add i) = some u)) := fun _ _ => .inl rfl
                  have HM2 := HM1
                  have HC1 : Hid (∀ u ∈ ([] : List Value), u.oneCell' = true) := fun u h => by cases h
                  have HC2 := HC1
                  have HFin : Hid (∀ (W : World) (v : Value), W.ownsRow X0.heap.size 48 6 v (((0 + 0) + 1) + 0) ((([] ++ []) ++ o.cells) ++ []) → W.ownsRow W1.heap.size 48 6 v (insAt [] o 0).length ((insAt [] o 0).flatMap DOff.cells)) := fun W v h => by
                    rw [insAt_len [] o (j := 0) (Nat.zero_le _), insAt_cells]
                    exact own_mono h hBw.size
                  clear hHeld
                  refine wpAnyH_ready (rs := [0, 6]) (by kernel_rfl) (by simp) ?_
                  refine AllReadyH.cons rfl (fun K hK => ?_) (AllReadyH.cons rfl (fun K hK => ?_) (AllReadyH.nil))
                  · go_simp
                    obtain ⟨b0, hb0⟩ : ∃ b, X0.heap.size = b := ⟨_, rfl⟩
                    have ow0 : (X0.alloc (.cells #[] 48)).ownsRow X0.heap.size 48 6 (.slice (some ⟨b0, 0, none⟩) 0 0) 0 [] := by
                      rw [← hb0]; exact World.ownsRow_made (base := X0.heap.size) (size := 6) (e := 48) X0 #[] 0 hB0.size (by decide) rfl
                    have hB1 := hB0.alloc hB0.size (.cells #[] 48)
                    refine hK.out _ _ ⟨hOf.on hB1, hB1⟩ (fun hHeld => ?_)
                    clear hK K
                    (try simp only [Act.put, List.getElem_toArray, List.getElem_cons_succ, List.getElem_cons_zero, List.setIfInBounds_toArray, List.set_cons_succ, List.set_cons_zero])
                    rw [hb0]
                    generalize X0.alloc (.cells #[] 48) = X1 at *
                    refine wpAnyH_ready (rs := [4, 6]) (by kernel_rfl) (by simp) ?_
                    refine AllReadyH.cons rfl (fun K hK => ?_) (AllReadyH.cons rfl (fun K hK => ?_) (AllReadyH.nil))
                    · refine step_app (by rfl) (.tmp 70) (.tmp 73) 22 (by rfl) X0.heap.size 48 i0' (.agg #[.int .i64 0, .int .i64 0, .int .i64 0, .string ⟨#[]⟩, .bool false, .slice none 0 0]) 6 72 Tryz.underlying22 hi hz0 hz1 hz2 rfl (by decide) (.slice (some ⟨b0, 0, none⟩) 0 0) 0 [] (by simp [Act.eval]) ow0 none 0 0 [] (by simp [Act.eval]) HL1.out (HM1.out _ hB1) HC1.out (by unfold maxLen; omega) (by omega) hB1.size ?_
                      intro v2 X2 ow2 hg2 hk2
                      have hB2 := below_grown hB1 ow0 hg2 hB1.size
                      refine hK.out _ _ ⟨hOf.on hB2, hB2⟩ (fun hHeld => ?_)
                      clear hK K
                      (try simp only [Act.put, List.getElem_toArray, List.getElem_cons_succ, List.getElem_cons_zero, List.setIfInBounds_toArray, List.set_cons_succ, List.set_cons_zero])
                      refine wpAnyH_ready (rs := [6]) (by kernel_rfl) (by simp) ?_
                      refine AllReadyH.cons rfl (fun K hK => ?_) (AllReadyH.nil)
                      go_simp
                      have hN3 : (X2.alloc (.cells #[.int .i64 o.v.a, .int .i64 o.v.b, .int .i64 o.v.c, .string o.v.p, .bool o.y, o.nv] 48)).heap[X2.heap.size]? = some (.cells #[.int .i64 o.v.a, .int .i64 o.v.b, .int .i64 o.v.c, .string o.v.p, .bool o.y, o.nv] 48) := Below_heap_new X2 _
                      have hB3 := hB2.alloc hB2.size (.cells #[.int .i64 o.v.a, .int .i64 o.v.b, .int .i64 o.v.c, .string o.v.p, .bool o.y, o.nv] 48)
                      have ow3 := ow2.alloc (.cells #[.int .i64 o.v.a, .int .i64 o.v.b, .int .i64 o.v.c, .string o.v.p, .bool o.y, o.nv] 48)
                      have hD3 : (v2 : Value).ownBlock ≠ some X2.heap.size := fun e => Nat.lt_irrefl _ (own_lt ow2 e)
                      refine hK.out _ _ ⟨hOf.on hB3, hB3⟩ (fun hHeld => ?_)
                      clear hK K
                      (try simp only [Act.put, List.getElem_toArray, List.getElem_cons_succ, List.getElem_cons_zero, List.setIfInBounds_toArray, List.set_cons_succ, List.set_cons_zero])
                      obtain ⟨bo, hbo⟩ : ∃ b, X2.heap.size = b := ⟨_, rfl⟩
                      rw [hbo] at hN3 hD3 ⊢
                      generalize X2.alloc (.cells #[.int .i64 o.v.a, .int .i64 o.v.b, .int .i64 o.v.c, .string o.v.p, .bool o.y, o.nv] 48) = X3 at *
                      refine wpAnyH_ready (rs := [7]) (by kernel_rfl) (by simp) ?_
                      refine AllReadyH.cons rfl (fun K hK => ?_) (AllReadyH.nil)
                      refine step_app (by rfl) (.tmp 74) (.tmp 76) 22 (by rfl) X0.heap.size 48 i0' (.agg #[.int .i64 0, .int .i64 0, .int .i64 0, .string ⟨#[]⟩, .bool false, .slice none 0 0]) 6 72 Tryz.underlying22 hi hz0 hz1 hz2 rfl (by decide) v2 (0 + 0) ([] ++ []) (by simp [Act.eval]) ow3 (some ⟨bo, 0, none⟩) 1 1 o.cells (by simp [Act.eval]) rfl (.inr ⟨_, rfl, World.news_of_block hN3⟩) HC0.out (by unfold maxLen; omega) (by omega) hB3.size ?_
                      intro v4 X4 ow4 hg4 hk4
                      have hB4 := below_grown hB3 ow3 hg4 hB3.size
                      refine hK.out _ _ ⟨hOf.on hB4, hB4⟩ (fun hHeld => ?_)
                      clear hK K
                      (try simp only [Act.put, List.getElem_toArray, List.getElem_cons_succ, List.getElem_cons_zero, List.setIfInBounds_toArray, List.set_cons_succ, List.set_cons_zero])
                      refine wpAnyH_ready (rs := [11]) (by kernel_rfl) (by simp) ?_
                      refine AllReadyH.cons rfl (fun K hK => ?_) (AllReadyH.nil)
                      refine step_app (by rfl) (.tmp 77) (.tmp 80) 22 (by rfl) X0.heap.size 48 i0' (.agg #[.int .i64 0, .int .i64 0, .int .i64 0, .string ⟨#[]⟩, .bool false, .slice none 0 0]) 6 72 Tryz.underlying22 hi hz0 hz1 hz2 rfl (by decide) v4 ((0 + 0) + 1) (([] ++ []) ++ o.cells) (by simp [Act.eval]) ow4 none 0 0 [] (by simp [Act.eval]) HL2.out (HM2.out _ hB4) HC2.out (by unfold maxLen; omega) (by omega) hB4.size ?_
                      intro v5 X5 ow5 hg5 hk5
                      have hB5 := below_grown hB4 ow4 hg5 hB4.size
                      refine hK.out _ _ ⟨hOf.on hB5, hB5⟩ (fun hHeld => ?_)
                      clear hK K
                      (try simp only [Act.put, List.getElem_toArray, List.getElem_cons_succ, List.getElem_cons_zero, List.setIfInBounds_toArray, List.set_cons_succ, List.set_cons_zero])
                      refine wpAnyH_take (i := 12) (v := ?_) rfl (by kernel_rfl) (by kernel_rfl) (by kernel_rfl) (fun _ _ _ h => h) (Or.inl ⟨by kernel_rfl, ?_⟩) hHeld ?_
                      rotate_left
                      · (intro W hSw; (try dsimp only at hSw); go_simp; (try with_reducible rfl))
                      (try simp only [Act.put, List.getElem_toArray, List.getElem_cons_succ, List.getElem_cons_zero, List.setIfInBounds_toArray, List.set_cons_succ, List.set_cons_zero])
                      refine wpAnyH_done (by kernel_rfl) ?_ _
                      go_wp2
                      go_roundw
                      case rel => exact ⟨k + 1, insAt [] o 0, hlt, by go_num, HIn2.out, by rw [insAt_len _ _ (by first | exact hj | exact Nat.zero_le _)]; omega, HFin.out _ _ ow5, hBw.trans (hB5.mono hBw.size)⟩
                      case measure => simp [intOf]; omega
                    · go_simp
                      have hN2 : (X1.alloc (.cells #[.int .i64 o.v.a, .int .i64 o.v.b, .int .i64 o.v.c, .string o.v.p, .bool o.y, o.nv] 48)).heap[X1.heap.size]? = some (.cells #[.int .i64 o.v.a, .int .i64 o.v.b, .int .i64 o.v.c, .string o.v.p, .bool o.y, o.nv] 48) := Below_heap_new X1 _
                      have hB2 := hB1.alloc hB1.size (.cells #[.int .i64 o.v.a, .int .i64 o.v.b, .int .i64 o.v.c, .string o.v.p, .bool o.y, o.nv] 48)
                      have ow2 := ow0.alloc (.cells #[.int .i64 o.v.a, .int .i64 o.v.b, .int .i64 o.v.c, .string o.v.p, .bool o.y, o.nv] 48)
                      have hD2 : ((.slice (some ⟨b0, 0, none⟩) 0 0) : Value).ownBlock ≠ some X1.heap.size := fun e => Nat.lt_irrefl _ (own_lt ow0 e)
                      refine hK.out _ _ ⟨hOf.on hB2, hB2⟩ (fun hHeld => ?_)
                      clear hK K
                      (try simp only [Act.put, List.getElem_toArray, List.getElem_cons_succ, List.getElem_cons_zero, List.setIfInBounds_toArray, List.set_cons_succ, List.set_cons_zero])
                      obtain ⟨bo, hbo⟩ : ∃ b, X1.heap.size = b := ⟨_, rfl⟩
                      rw [hbo] at hN2 hD2 ⊢
                      generalize X1.alloc (.cells #[.int .i64 o.v.a, .int .i64 o.v.b, .int .i64 o.v.c, .string o.v.p, .bool o.y, o.nv] 48) = X2 at *
                      refine wpAnyH_ready (rs := [4]) (by kernel_rfl) (by simp) ?_
                      refine AllReadyH.cons rfl (fun K hK => ?_) (AllReadyH.nil)
                      refine step_app (by rfl) (.tmp 70) (.tmp 73) 22 (by rfl) X0.heap.size 48 i0' (.agg #[.int .i64 0, .int .i64 0, .int .i64 0, .string ⟨#[]⟩, .bool false, .slice none 0 0]) 6 72 Tryz.underlying22 hi hz0 hz1 hz2 rfl (by decide) (.slice (some ⟨b0, 0, none⟩) 0 0) 0 [] (by simp [Act.eval]) ow2 none 0 0 [] (by simp [Act.eval]) HL1.out (HM1.out _ hB2) HC1.out (by unfold maxLen; omega) (by omega) hB2.size ?_
                      intro v3 X3 ow3 hg3 hk3
                      have hB3 := below_grown hB2 ow2 hg3 hB2.size
                      have hN3 := new_kept hN2 hD2 hg3
                      have hD3 : v3.ownBlock ≠ some bo := by
                        have h1 := (Array.getElem?_eq_some_iff.1 hN2).1
                        rcases hk3 with e | e
                        · rw [e]; exact hD2
                        · rw [e]; intro e; have e2 : X2.heap.size = bo := by injection e
                          omega
                      refine hK.out _ _ ⟨hOf.on hB3, hB3⟩ (fun hHeld => ?_)
                      clear hK K
                      (try simp only [Act.put, List.getElem_toArray, List.getElem_cons_succ, List.getElem_cons_zero, List.setIfInBounds_toArray, List.set_cons_succ, List.set_cons_zero])
                      refine wpAnyH_ready (rs := [7]) (by kernel_rfl) (by simp) ?_
                      refine AllReadyH.cons rfl (fun K hK => ?_) (AllReadyH.nil)
                      refine step_app (by rfl) (.tmp 74) (.tmp 76) 22 (by rfl) X0.heap.size 48 i0' (.agg #[.int .i64 0, .int .i64 0, .int .i64 0, .string ⟨#[]⟩, .bool false, .slice none 0 0]) 6 72 Tryz.underlying22 hi hz0 hz1 hz2 rfl (by decide) v3 (0 + 0) ([] ++ []) (by simp [Act.eval]) ow3 (some ⟨bo, 0, none⟩) 1 1 o.cells (by simp [Act.eval]) rfl (.inr ⟨_, rfl, World.news_of_block hN3⟩) HC0.out (by unfold maxLen; omega) (by omega) hB3.size ?_
                      intro v4 X4 ow4 hg4 hk4
                      have hB4 := below_grown hB3 ow3 hg4 hB3.size
                      refine hK.out _ _ ⟨hOf.on hB4, hB4⟩ (fun hHeld => ?_)
                      clear hK K
                      (try simp only [Act.put, List.getElem_toArray, List.getElem_cons_succ, List.getElem_cons_zero, List.setIfInBounds_toArray, List.set_cons_succ, List.set_cons_zero])
                      refine wpAnyH_ready (rs := [11]) (by kernel_rfl) (by simp) ?_
                      refine AllReadyH.cons rfl (fun K hK => ?_) (AllReadyH.nil)
                      refine step_app (by rfl) (.tmp 77) (.tmp 80) 22 (by rfl) X0.heap.size 48 i0' (.agg #[.int .i64 0, .int .i64 0, .int .i64 0, .string ⟨#[]⟩, .bool false, .slice none 0 0]) 6 72 Tryz.underlying22 hi hz0 hz1 hz2 rfl (by decide) v4 ((0 + 0) + 1) (([] ++ []) ++ o.cells) (by simp [Act.eval]) ow4 none 0 0 [] (by simp [Act.eval]) HL2.out (HM2.out _ hB4) HC2.out (by unfold maxLen; omega) (by omega) hB4.size ?_
                      intro v5 X5 ow5 hg5 hk5
                      have hB5 := below_grown hB4 ow4 hg5 hB4.size
                      refine hK.out _ _ ⟨hOf.on hB5, hB5⟩ (fun hHeld => ?_)
                      clear hK K
                      (try simp only [Act.put, List.getElem_toArray, List.getElem_cons_succ, List.getElem_cons_zero, List.setIfInBounds_toArray, List.set_cons_succ, List.set_cons_zero])
                      refine wpAnyH_take (i := 12) (v := ?_) rfl (by kernel_rfl) (by kernel_rfl) (by kernel_rfl) (fun _ _ _ h => h) (Or.inl ⟨by kernel_rfl, ?_⟩) hHeld ?_
                      rotate_left
                      · (intro W hSw; (try dsimp only at hSw); go_simp; (try with_reducible rfl))
                      (try simp only [Act.put, List.getElem_toArray, List.getElem_cons_succ, List.getElem_cons_zero, List.setIfInBounds_toArray, List.set_cons_succ, List.set_cons_zero])
                      refine wpAnyH_done (by kernel_rfl) ?_ _
                      go_wp2
                      go_roundw
                      case rel => exact ⟨k + 1, insAt [] o 0, hlt, by go_num, HIn2.out, by rw [insAt_len _ _ (by first | exact hj | exact Nat.zero_le _)]; omega, HFin.out _ _ ow5, hBw.trans (hB5.mono hBw.size)⟩
                      case measure => simp [intOf]; omega
                  · go_simp
                    have hN1 : (X0.alloc (.cells #[.int .i64 o.v.a, .int .i64 o.v.b, .int .i64 o.v.c, .string o.v.p, .bool o.y, o.nv] 48)).heap[X0.heap.size]? = some (.cells #[.int .i64 o.v.a, .int .i64 o.v.b, .int .i64 o.v.c, .string o.v.p, .bool o.y, o.nv] 48) := Below_heap_new X0 _
                    have hB1 := hB0.alloc hB0.size (.cells #[.int .i64 o.v.a, .int .i64 o.v.b, .int .i64 o.v.c, .string o.v.p, .bool o.y, o.nv] 48)
                    refine hK.out _ _ ⟨hOf.on hB1, hB1⟩ (fun hHeld => ?_)
                    clear hK K
                    (try simp only [Act.put, List.getElem_toArray, List.getElem_cons_succ, List.getElem_cons_zero, List.setIfInBounds_toArray, List.set_cons_succ, List.set_cons_zero])
                    obtain ⟨bo, hbo⟩ : ∃ b, X0.heap.size = b := ⟨_, rfl⟩
                    rw [hbo] at hN1 ⊢
                    generalize X0.alloc (.cells #[.int .i64 o.v.a, .int .i64 o.v.b, .int .i64 o.v.c, .string o.v.p, .bool o.y, o.nv] 48) = X1 at *
                    refine wpAnyH_ready (rs := [0]) (by kernel_rfl) (by simp) ?_
                    refine AllReadyH.cons rfl (fun K hK => ?_) (AllReadyH.nil)
                    go_simp
                    obtain ⟨b0, hb0⟩ : ∃ b, X1.heap.size = b := ⟨_, rfl⟩
                    have ow0 : (X1.alloc (.cells #[] 48)).ownsRow X0.heap.size 48 6 (.slice (some ⟨b0, 0, none⟩) 0 0) 0 [] := by
                      rw [← hb0]; exact World.ownsRow_made (base := X0.heap.size) (size := 6) (e := 48) X1 #[] 0 hB1.size (by decide) rfl
                    have hB2 := hB1.alloc hB1.size (.cells #[] 48)
                    have hN2 := new_alloc hN1 (.cells #[] 48)
                    have hD2 : (Value.slice (some ⟨X1.heap.size, 0, none⟩) 0 0).ownBlock ≠ some bo := fun e => by
                      have h1 := (Array.getElem?_eq_some_iff.1 hN1).1
                      have e2 : X1.heap.size = bo := by injection e
                      omega
                    refine hK.out _ _ ⟨hOf.on hB2, hB2⟩ (fun hHeld => ?_)
                    clear hK K
                    (try simp only [Act.put, List.getElem_toArray, List.getElem_cons_succ, List.getElem_cons_zero, List.setIfInBounds_toArray, List.set_cons_succ, List.set_cons_zero])
                    rw [hb0] at hD2 ⊢
                    generalize X1.alloc (.cells #[] 48) = X2 at *
                    refine wpAnyH_ready (rs := [4]) (by kernel_rfl) (by simp) ?_
                    refine AllReadyH.cons rfl (fun K hK => ?_) (AllReadyH.nil)
                    refine step_app (by rfl) (.tmp 70) (.tmp 73) 22 (by rfl) X0.heap.size 48 i0' (.agg #[.int .i64 0, .int .i64 0, .int .i64 0, .string ⟨#[]⟩, .bool false, .slice none 0 0]) 6 72 Tryz.underlying22 hi hz0 hz1 hz2 rfl (by decide) (.slice (some ⟨b0, 0, none⟩) 0 0) 0 [] (by simp [Act.eval]) ow0 none 0 0 [] (by simp [Act.eval]) HL1.out (HM1.out _ hB2) HC1.out (by unfold maxLen; omega) (by omega) hB2.size ?_
                    intro v3 X3 ow3 hg3 hk3
                    have hB3 := below_grown hB2 ow0 hg3 hB2.size
                    have hN3 := new_kept hN2 hD2 hg3
                    have hD3 : v3.ownBlock ≠ some bo := by
                      have h1 := (Array.getElem?_eq_some_iff.1 hN2).1
                      rcases hk3 with e | e
                      · rw [e]; exact hD2
                      · rw [e]; intro e; have e2 : X2.heap.size = bo := by injection e
                        omega
                    refine hK.out _ _ ⟨hOf.on hB3, hB3⟩ (fun hHeld => ?_)
                    clear hK K
                    (try simp only [Act.put, List.getElem_toArray, List.getElem_cons_succ, List.getElem_cons_zero, List.setIfInBounds_toArray, List.set_cons_succ, List.set_cons_zero])
                    refine wpAnyH_ready (rs := [7]) (by kernel_rfl) (by simp) ?_
                    refine AllReadyH.cons rfl (fun K hK => ?_) (AllReadyH.nil)
                    refine step_app (by rfl) (.tmp 74) (.tmp 76) 22 (by rfl) X0.heap.size 48 i0' (.agg #[.int .i64 0, .int .i64 0, .int .i64 0, .string ⟨#[]⟩, .bool false, .slice none 0 0]) 6 72 Tryz.underlying22 hi hz0 hz1 hz2 rfl (by decide) v3 (0 + 0) ([] ++ []) (by simp [Act.eval]) ow3 (some ⟨bo, 0, none⟩) 1 1 o.cells (by simp [Act.eval]) rfl (.inr ⟨_, rfl, World.news_of_block hN3⟩) HC0.out (by unfold maxLen; omega) (by omega) hB3.size ?_
                    intro v4 X4 ow4 hg4 hk4
                    have hB4 := below_grown hB3 ow3 hg4 hB3.size
                    refine hK.out _ _ ⟨hOf.on hB4, hB4⟩ (fun hHeld => ?_)
                    clear hK K
                    (try simp only [Act.put, List.getElem_toArray, List.getElem_cons_succ, List.getElem_cons_zero, List.setIfInBounds_toArray, List.set_cons_succ, List.set_cons_zero])
                    refine wpAnyH_ready (rs := [11]) (by kernel_rfl) (by simp) ?_
                    refine AllReadyH.cons rfl (fun K hK => ?_) (AllReadyH.nil)
                    refine step_app (by rfl) (.tmp 77) (.tmp 80) 22 (by rfl) X0.heap.size 48 i0' (.agg #[.int .i64 0, .int .i64 0, .int .i64 0, .string ⟨#[]⟩, .bool false, .slice none 0 0]) 6 72 Tryz.underlying22 hi hz0 hz1 hz2 rfl (by decide) v4 ((0 + 0) + 1) (([] ++ []) ++ o.cells) (by simp [Act.eval]) ow4 none 0 0 [] (by simp [Act.eval]) HL2.out (HM2.out _ hB4) HC2.out (by unfold maxLen; omega) (by omega) hB4.size ?_
                    intro v5 X5 ow5 hg5 hk5
                    have hB5 := below_grown hB4 ow4 hg5 hB4.size
                    refine hK.out _ _ ⟨hOf.on hB5, hB5⟩ (fun hHeld => ?_)
                    clear hK K
                    (try simp only [Act.put, List.getElem_toArray, List.getElem_cons_succ, List.getElem_cons_zero, List.setIfInBounds_toArray, List.set_cons_succ, List.set_cons_zero])
                    refine wpAnyH_take (i := 12) (v := ?_) rfl (by kernel_rfl) (by kernel_rfl) (by kernel_rfl) (fun _ _ _ h => h) (Or.inl ⟨by kernel_rfl, ?_⟩) hHeld ?_
                    rotate_left
                    · (intro W hSw; (try dsimp only at hSw); go_simp; (try with_reducible rfl))
                    (try simp only [Act.put, List.getElem_toArray, List.getElem_cons_succ, List.getElem_cons_zero, List.setIfInBounds_toArray, List.set_cons_succ, List.set_cons_zero])
                    refine wpAnyH_done (by kernel_rfl) ?_ _
                    go_wp2
                    go_roundw
                    case rel => exact ⟨k + 1, insAt [] o 0, hlt, by go_num, HIn2.out, by rw [insAt_len _ _ (by first | exact hj | exact Nat.zero_le _)]; omega, HFin.out _ _ ow5, hBw.trans (hB5.mono hBw.size)⟩
                    case measure => simp [intOf]; omega
                · injection hv with q1 _ q3
                  subst q1 q3
                  have hcap : out.length ≤ vcap := by
                    rcases HOw6.out.2 with ⟨h, _⟩ | ⟨g', cap', cur, h, _, _, h4, _⟩
                    · cases h
                    · injection h with _ _ h; omega
                  have j0 : (0 : Int) ≤ (j : Int) := by omega
                  have j1 : (j : Int) ≤ (vcap : Int) := by omega
                  have j2 : (j : Int) ≤ (out.length : Int) := by omega
                  have j3 : (out.length : Int) ≤ (vcap : Int) := by omega
                  have hcl : ∀ i u, (out.flatMap DOff.cells)[i]? = some u → wc.drew.cell? ⟨g, i, none⟩ = some u := fun i u hu => by
                    have h1 : i < out.length * 6 := by
                      have := (List.getElem?_eq_some_iff.1 hu).1
                      rw [offs_len] at this; exact this
                    have h2 := World.ownsRow.cellAt HOw6.out i h1
                    rw [← hu, ← h2]; simp
                  have hgl : g < wc.drew.heap.size := by
                    have := own_lt HOw6.out (g := g) rfl
                    simpa using this
                  obtain ⟨q, hq, hqj⟩ : ∃ q, (if vcap = j then some (⟨g, 0, none⟩ : Addr) else some ⟨g, j * 6, none⟩) = some ⟨g, q, none⟩ ∧ (j < out.length → q = j * 6) := by
                    by_cases h : vcap = j
                    · exact ⟨0, by rw [if_pos h], fun h2 => by omega⟩
                    · exact ⟨j * 6, by rw [if_neg h], fun _ => rfl⟩
                  go_wp2_with fail
                  refine wp_region_held_drew (S := (fun W => OfS b9 o wc.drew W)) (by kernel_rfl) (hst) (fun hHeld => ?_)
                  refine wpAnyH_take (i := 1) (v := ?_) rfl (by kernel_rfl) (by kernel_rfl) (by kernel_rfl) (fun _ _ _ h => h) (Or.inl ⟨by kernel_rfl, ?_⟩) hHeld ?_
                  rotate_left
                  · (rintro W ⟨⟨⟨e0, e1, e2, e3⟩, e4, e5⟩, _⟩; go_simp; (try with_reducible rfl))
                  (try simp only [Act.put, List.getElem_toArray, List.getElem_cons_succ, List.getElem_cons_zero, List.setIfInBounds_toArray, List.set_cons_succ, List.set_cons_zero])
                  refine wpAnyH_take (i := 2) (v := ?_) rfl (by kernel_rfl) (by kernel_rfl) (by kernel_rfl) (fun _ _ _ h => h) (Or.inl ⟨by kernel_rfl, ?_⟩) hHeld ?_
                  rotate_left
                  · (rintro W ⟨⟨⟨e0, e1, e2, e3⟩, e4, e5⟩, _⟩; go_simp; (try with_reducible rfl))
                  (try simp only [Act.put, List.getElem_toArray, List.getElem_cons_succ, List.getElem_cons_zero, List.setIfInBounds_toArray, List.set_cons_succ, List.set_cons_zero])
                  refine wpAnyH_take (i := 3) (v := ?_) rfl (by kernel_rfl) (by kernel_rfl) (by kernel_rfl) (fun _ _ _ h => h) (Or.inl ⟨by kernel_rfl, ?_⟩) hHeld ?_
                  rotate_left
                  · (rintro W ⟨⟨⟨e0, e1, e2, e3⟩, e4, e5⟩, _⟩; go_simp; (try with_reducible rfl))
                  (try simp only [Act.put, List.getElem_toArray, List.getElem_cons_succ, List.getElem_cons_zero, List.setIfInBounds_toArray, List.set_cons_succ, List.set_cons_zero])
                  refine wpAnyH_take (i := 5) (v := ?_) rfl (by kernel_rfl) (by kernel_rfl) (by kernel_rfl) (fun _ _ _ h => h) (Or.inl ⟨by kernel_rfl, ?_⟩) hHeld ?_
                  rotate_left
                  · (rintro W ⟨⟨⟨e0, e1, e2, e3⟩, e4, e5⟩, _⟩; go_simp; (try with_reducible rfl))
                  (try simp only [Act.put, List.getElem_toArray, List.getElem_cons_succ, List.getElem_cons_zero, List.setIfInBounds_toArray, List.set_cons_succ, List.set_cons_zero])
                  refine wpAnyH_take (i := 8) (v := ?_) rfl (by kernel_rfl) (by kernel_rfl) (by kernel_rfl) (fun _ _ _ h => h) (Or.inl ⟨by kernel_rfl, ?_⟩) hHeld ?_
                  rotate_left
                  · (rintro W ⟨⟨⟨e0, e1, e2, e3⟩, e4, e5⟩, _⟩; go_simp; (try with_reducible rfl))
                  (try simp only [Act.put, List.getElem_toArray, List.getElem_cons_succ, List.getElem_cons_zero, List.setIfInBounds_toArray, List.set_cons_succ, List.set_cons_zero])
                  refine wpAnyH_take (i := 9) (v := ?_) rfl (by kernel_rfl) (by kernel_rfl) (by kernel_rfl) (fun _ _ _ h => h) (Or.inl ⟨by kernel_rfl, ?_⟩) hHeld ?_
                  rotate_left
                  · (rintro W ⟨⟨⟨e0, e1, e2, e3⟩, e4, e5⟩, _⟩; go_simp; (try with_reducible rfl))
                  (try simp only [Act.put, List.getElem_toArray, List.getElem_cons_succ, List.getElem_cons_zero, List.setIfInBounds_toArray, List.set_cons_succ, List.set_cons_zero])
                  refine wpAnyH_take (i := 10) (v := ?_) rfl (by kernel_rfl) (by kernel_rfl) (by kernel_rfl) (fun _ _ _ h => h) (Or.inl ⟨by kernel_rfl, ?_⟩) hHeld ?_
                  rotate_left
                  · (rintro W ⟨⟨⟨e0, e1, e2, e3⟩, e4, e5⟩, _⟩; go_simp; (try with_reducible rfl))
                  (try simp only [Act.put, List.getElem_toArray, List.getElem_cons_succ, List.getElem_cons_zero, List.setIfInBounds_toArray, List.set_cons_succ, List.set_cons_zero])
                  try rw [hq]
                  generalize wc.drew = X0 at *
                  have hOf := hst.1
                  have hB0 := Below.refl X0.heap.size X0
                  have hadd : ∀ (b x i : Nat), (⟨b, x, none⟩ : Addr).add i = ⟨b, x + i, none⟩ := fun b x i => by unfold Addr.add; split <;> simp_all
                  have HL1 : Hid (((out.take j).flatMap DOff.cells).length = j * 6) := by
                    show _ = _
                    rw [offs_len, List.length_take, Nat.min_eq_left hj]
                  have HL2 : Hid (((out.drop j).flatMap DOff.cells).length = (out.length - j) * 6) := by
                    show _ = _
                    rw [offs_len, List.length_drop]
                  have hsp : (out.take j).flatMap DOff.cells ++ (out.drop j).flatMap DOff.cells = out.flatMap DOff.cells := by
                    rw [← List.flatMap_append, List.take_append_drop]
                  have HM1 : Hid (∀ W, Below X0.heap.size X0 W → (j = 0 ∨ ∃ ad, (some (⟨g, 0, none⟩ : Addr)) = some ad ∧ ∀ i u, ((out.take j).flatMap DOff.cells)[i]? = some u → W.cell? (ad.add i) = some u)) := fun W hW => .inr ⟨_, rfl, fun i u hu => by
                    rw [hadd, Nat.zero_add, hW.cell (p := ⟨g, i, none⟩) hgl]
                    refine hcl i u ?_
                    rw [← hsp, List.getElem?_append_left (List.getElem?_eq_some_iff.1 hu).1]; exact hu⟩
                  have HM2 : Hid (∀ W, Below X0.heap.size X0 W → (out.length - j = 0 ∨ ∃ ad, (some (⟨g, q, none⟩ : Addr)) = some ad ∧ ∀ i u, ((out.drop j).flatMap DOff.cells)[i]? = some u → W.cell? (ad.add i) = some u)) := fun W hW => by
                    by_cases h : j < out.length
                    · refine .inr ⟨_, rfl, fun i u hu => ?_⟩
                      rw [hadd, hqj h, hW.cell (p := ⟨g, j * 6 + i, none⟩) hgl]
                      refine hcl _ u ?_
                      rw [← hsp, List.getElem?_append_right (by rw [HL1.out]; omega), HL1.out, Nat.add_sub_cancel_left]; exact hu
                    · exact .inl (by omega)
                  have hone : ∀ l : List DOff, ∀ u ∈ l.flatMap DOff.cells, u.oneCell' = true := fun l u hu => by
                    obtain ⟨x, _, hx⟩ := List.mem_flatMap.1 hu
                    exact dsix_one x u hx
                  have HC1 : Hid (∀ u ∈ (out.take j).flatMap DOff.cells, u.oneCell' = true) := hone _
                  have HC2 : Hid (∀ u ∈ (out.drop j).flatMap DOff.cells, u.oneCell' = true) := hone _
                  have HFin : Hid (∀ (W : World) (v : Value), W.ownsRow X0.heap.size 48 6 v (((0 + j) + 1) + (out.length - j)) ((([] ++ ((out.take j).flatMap DOff.cells)) ++ o.cells) ++ ((out.drop j).flatMap DOff.cells)) → W.ownsRow W1.heap.size 48 6 v (insAt out o j).length ((insAt out o j).flatMap DOff.cells)) := fun W v h => by
                    rw [insAt_len out o hj, insAt_cells]
                    have e : 0 + j + 1 + (out.length - j) = out.length + 1 := by omega
                    rw [e, List.nil_append] at h
                    exact own_mono h hBw.size
                  clear hcl hone hsp hadd hHeld
                  refine wpAnyH_ready (rs := [0, 6]) (by kernel_rfl) (by simp) ?_
                  refine AllReadyH.cons rfl (fun K hK => ?_) (AllReadyH.cons rfl (fun K hK => ?_) (AllReadyH.nil))
                  · go_simp
                    obtain ⟨b0, hb0⟩ : ∃ b, X0.heap.size = b := ⟨_, rfl⟩
                    have ow0 : (X0.alloc (.cells #[] 48)).ownsRow X0.heap.size 48 6 (.slice (some ⟨b0, 0, none⟩) 0 0) 0 [] := by
                      rw [← hb0]; exact World.ownsRow_made (base := X0.heap.size) (size := 6) (e := 48) X0 #[] 0 hB0.size (by decide) rfl
                    have hB1 := hB0.alloc hB0.size (.cells #[] 48)
                    refine hK.out _ _ ⟨hOf.on hB1, hB1⟩ (fun hHeld => ?_)
                    clear hK K
                    (try simp only [Act.put, List.getElem_toArray, List.getElem_cons_succ, List.getElem_cons_zero, List.setIfInBounds_toArray, List.set_cons_succ, List.set_cons_zero])
                    rw [hb0]
                    generalize X0.alloc (.cells #[] 48) = X1 at *
                    refine wpAnyH_ready (rs := [4, 6]) (by kernel_rfl) (by simp) ?_
                    refine AllReadyH.cons rfl (fun K hK => ?_) (AllReadyH.cons rfl (fun K hK => ?_) (AllReadyH.nil))
                    · refine step_app (by rfl) (.tmp 70) (.tmp 73) 22 (by rfl) X0.heap.size 48 i0' (.agg #[.int .i64 0, .int .i64 0, .int .i64 0, .string ⟨#[]⟩, .bool false, .slice none 0 0]) 6 72 Tryz.underlying22 hi hz0 hz1 hz2 rfl (by decide) (.slice (some ⟨b0, 0, none⟩) 0 0) 0 [] (by simp [Act.eval]) ow0 (some ⟨g, 0, none⟩) j vcap ((out.take j).flatMap DOff.cells) (by simp [Act.eval]) HL1.out (HM1.out _ hB1) HC1.out (by unfold maxLen; omega) (by omega) hB1.size ?_
                      intro v2 X2 ow2 hg2 hk2
                      have hB2 := below_grown hB1 ow0 hg2 hB1.size
                      refine hK.out _ _ ⟨hOf.on hB2, hB2⟩ (fun hHeld => ?_)
                      clear hK K
                      (try simp only [Act.put, List.getElem_toArray, List.getElem_cons_succ, List.getElem_cons_zero, List.setIfInBounds_toArray, List.set_cons_succ, List.set_cons_zero])
                      refine wpAnyH_ready (rs := [6]) (by kernel_rfl) (by simp) ?_
                      refine AllReadyH.cons rfl (fun K hK => ?_) (AllReadyH.nil)
                      go_simp
                      have hN3 : (X2.alloc (.cells #[.int .i64 o.v.a, .int .i64 o.v.b, .int .i64 o.v.c, .string o.v.p, .bool o.y, o.nv] 48)).heap[X2.heap.size]? = some (.cells #[.int .i64 o.v.a, .int .i64 o.v.b, .int .i64 o.v.c, .string o.v.p, .bool o.y, o.nv] 48) := Below_heap_new X2 _
                      have hB3 := hB2.alloc hB2.size (.cells #[.int .i64 o.v.a, .int .i64 o.v.b, .int .i64 o.v.c, .string o.v.p, .bool o.y, o.nv] 48)
                      have ow3 := ow2.alloc (.cells #[.int .i64 o.v.a, .int .i64 o.v.b, .int .i64 o.v.c, .string o.v.p, .bool o.y, o.nv] 48)
                      have hD3 : (v2 : Value).ownBlock ≠ some X2.heap.size := fun e => Nat.lt_irrefl _ (own_lt ow2 e)
                      refine hK.out _ _ ⟨hOf.on hB3, hB3⟩ (fun hHeld => ?_)
                      clear hK K
                      (try simp only [Act.put, List.getElem_toArray, List.getElem_cons_succ, List.getElem_cons_zero, List.setIfInBounds_toArray, List.set_cons_succ, List.set_cons_zero])
                      obtain ⟨bo, hbo⟩ : ∃ b, X2.heap.size = b := ⟨_, rfl⟩
                      rw [hbo] at hN3 hD3 ⊢
                      generalize X2.alloc (.cells #[.int .i64 o.v.a, .int .i64 o.v.b, .int .i64 o.v.c, .string o.v.p, .bool o.y, o.nv] 48) = X3 at *
                      refine wpAnyH_ready (rs := [7]) (by kernel_rfl) (by simp) ?_
                      refine AllReadyH.cons rfl (fun K hK => ?_) (AllReadyH.nil)
                      refine step_app (by rfl) (.tmp 74) (.tmp 76) 22 (by rfl) X0.heap.size 48 i0' (.agg #[.int .i64 0, .int .i64 0, .int .i64 0, .string ⟨#[]⟩, .bool false, .slice none 0 0]) 6 72 Tryz.underlying22 hi hz0 hz1 hz2 rfl (by decide) v2 (0 + j) ([] ++ ((out.take j).flatMap DOff.cells)) (by simp [Act.eval]) ow3 (some ⟨bo, 0, none⟩) 1 1 o.cells (by simp [Act.eval]) rfl (.inr ⟨_, rfl, World.news_of_block hN3⟩) HC0.out (by unfold maxLen; omega) (by omega) hB3.size ?_
                      intro v4 X4 ow4 hg4 hk4
                      have hB4 := below_grown hB3 ow3 hg4 hB3.size
                      refine hK.out _ _ ⟨hOf.on hB4, hB4⟩ (fun hHeld => ?_)
                      clear hK K
                      (try simp only [Act.put, List.getElem_toArray, List.getElem_cons_succ, List.getElem_cons_zero, List.setIfInBounds_toArray, List.set_cons_succ, List.set_cons_zero])
                      refine wpAnyH_ready (rs := [11]) (by kernel_rfl) (by simp) ?_
                      refine AllReadyH.cons rfl (fun K hK => ?_) (AllReadyH.nil)
                      refine step_app (by rfl) (.tmp 77) (.tmp 80) 22 (by rfl) X0.heap.size 48 i0' (.agg #[.int .i64 0, .int .i64 0, .int .i64 0, .string ⟨#[]⟩, .bool false, .slice none 0 0]) 6 72 Tryz.underlying22 hi hz0 hz1 hz2 rfl (by decide) v4 ((0 + j) + 1) (([] ++ ((out.take j).flatMap DOff.cells)) ++ o.cells) (by simp [Act.eval]) ow4 (some ⟨g, q, none⟩) (out.length - j) (vcap - j) ((out.drop j).flatMap DOff.cells) (by simp [Act.eval]) HL2.out (HM2.out _ hB4) HC2.out (by unfold maxLen; omega) (by omega) hB4.size ?_
                      intro v5 X5 ow5 hg5 hk5
                      have hB5 := below_grown hB4 ow4 hg5 hB4.size
                      refine hK.out _ _ ⟨hOf.on hB5, hB5⟩ (fun hHeld => ?_)
                      clear hK K
                      (try simp only [Act.put, List.getElem_toArray, List.getElem_cons_succ, List.getElem_cons_zero, List.setIfInBounds_toArray, List.set_cons_succ, List.set_cons_zero])
                      refine wpAnyH_take (i := 12) (v := ?_) rfl (by kernel_rfl) (by kernel_rfl) (by kernel_rfl) (fun _ _ _ h => h) (Or.inl ⟨by kernel_rfl, ?_⟩) hHeld ?_
                      rotate_left
                      · (intro W hSw; (try dsimp only at hSw); go_simp; (try with_reducible rfl))
                      (try simp only [Act.put, List.getElem_toArray, List.getElem_cons_succ, List.getElem_cons_zero, List.setIfInBounds_toArray, List.set_cons_succ, List.set_cons_zero])
                      refine wpAnyH_done (by kernel_rfl) ?_ _
                      go_wp2
                      go_roundw
                      case rel => exact ⟨k + 1, insAt out o j, hlt, by go_num, HIn2.out, by rw [insAt_len _ _ (by first | exact hj | exact Nat.zero_le _)]; omega, HFin.out _ _ ow5, hBw.trans (hB5.mono hBw.size)⟩
                      case measure => simp [intOf]; omega
                    · go_simp
                      have hN2 : (X1.alloc (.cells #[.int .i64 o.v.a, .int .i64 o.v.b, .int .i64 o.v.c, .string o.v.p, .bool o.y, o.nv] 48)).heap[X1.heap.size]? = some (.cells #[.int .i64 o.v.a, .int .i64 o.v.b, .int .i64 o.v.c, .string o.v.p, .bool o.y, o.nv] 48) := Below_heap_new X1 _
                      have hB2 := hB1.alloc hB1.size (.cells #[.int .i64 o.v.a, .int .i64 o.v.b, .int .i64 o.v.c, .string o.v.p, .bool o.y, o.nv] 48)
                      have ow2 := ow0.alloc (.cells #[.int .i64 o.v.a, .int .i64 o.v.b, .int .i64 o.v.c, .string o.v.p, .bool o.y, o.nv] 48)
                      have hD2 : ((.slice (some ⟨b0, 0, none⟩) 0 0) : Value).ownBlock ≠ some X1.heap.size := fun e => Nat.lt_irrefl _ (own_lt ow0 e)
                      refine hK.out _ _ ⟨hOf.on hB2, hB2⟩ (fun hHeld => ?_)
                      clear hK K
                      (try simp only [Act.put, List.getElem_toArray, List.getElem_cons_succ, List.getElem_cons_zero, List.setIfInBounds_toArray, List.set_cons_succ, List.set_cons_zero])
                      obtain ⟨bo, hbo⟩ : ∃ b, X1.heap.size = b := ⟨_, rfl⟩
                      rw [hbo] at hN2 hD2 ⊢
                      generalize X1.alloc (.cells #[.int .i64 o.v.a, .int .i64 o.v.b, .int .i64 o.v.c, .string o.v.p, .bool o.y, o.nv] 48) = X2 at *
                      refine wpAnyH_ready (rs := [4]) (by kernel_rfl) (by simp) ?_
                      refine AllReadyH.cons rfl (fun K hK => ?_) (AllReadyH.nil)
                      refine step_app (by rfl) (.tmp 70) (.tmp 73) 22 (by rfl) X0.heap.size 48 i0' (.agg #[.int .i64 0, .int .i64 0, .int .i64 0, .string ⟨#[]⟩, .bool false, .slice none 0 0]) 6 72 Tryz.underlying22 hi hz0 hz1 hz2 rfl (by decide) (.slice (some ⟨b0, 0, none⟩) 0 0) 0 [] (by simp [Act.eval]) ow2 (some ⟨g, 0, none⟩) j vcap ((out.take j).flatMap DOff.cells) (by simp [Act.eval]) HL1.out (HM1.out _ hB2) HC1.out (by unfold maxLen; omega) (by omega) hB2.size ?_
                      intro v3 X3 ow3 hg3 hk3
                      have hB3 := below_grown hB2 ow2 hg3 hB2.size
                      have hN3 := new_kept hN2 hD2 hg3
                      have hD3 : v3.ownBlock ≠ some bo := by
                        have h1 := (Array.getElem?_eq_some_iff.1 hN2).1
                        rcases hk3 with e | e
                        · rw [e]; exact hD2
                        · rw [e]; intro e; have e2 : X2.heap.size = bo := by injection e
                          omega
                      refine hK.out _ _ ⟨hOf.on hB3, hB3⟩ (fun hHeld => ?_)
                      clear hK K
                      (try simp only [Act.put, List.getElem_toArray, List.getElem_cons_succ, List.getElem_cons_zero, List.setIfInBounds_toArray, List.set_cons_succ, List.set_cons_zero])
                      refine wpAnyH_ready (rs := [7]) (by kernel_rfl) (by simp) ?_
                      refine AllReadyH.cons rfl (fun K hK => ?_) (AllReadyH.nil)
                      refine step_app (by rfl) (.tmp 74) (.tmp 76) 22 (by rfl) X0.heap.size 48 i0' (.agg #[.int .i64 0, .int .i64 0, .int .i64 0, .string ⟨#[]⟩, .bool false, .slice none 0 0]) 6 72 Tryz.underlying22 hi hz0 hz1 hz2 rfl (by decide) v3 (0 + j) ([] ++ ((out.take j).flatMap DOff.cells)) (by simp [Act.eval]) ow3 (some ⟨bo, 0, none⟩) 1 1 o.cells (by simp [Act.eval]) rfl (.inr ⟨_, rfl, World.news_of_block hN3⟩) HC0.out (by unfold maxLen; omega) (by omega) hB3.size ?_
                      intro v4 X4 ow4 hg4 hk4
                      have hB4 := below_grown hB3 ow3 hg4 hB3.size
                      refine hK.out _ _ ⟨hOf.on hB4, hB4⟩ (fun hHeld => ?_)
                      clear hK K
                      (try simp only [Act.put, List.getElem_toArray, List.getElem_cons_succ, List.getElem_cons_zero, List.setIfInBounds_toArray, List.set_cons_succ, List.set_cons_zero])
                      refine wpAnyH_ready (rs := [11]) (by kernel_rfl) (by simp) ?_
                      refine AllReadyH.cons rfl (fun K hK => ?_) (AllReadyH.nil)
                      refine step_app (by rfl) (.tmp 77) (.tmp 80) 22 (by rfl) X0.heap.size 48 i0' (.agg #[.int .i64 0, .int .i64 0, .int .i64 0, .string ⟨#[]⟩, .bool false, .slice none 0 0]) 6 72 Tryz.underlying22 hi hz0 hz1 hz2 rfl (by decide) v4 ((0 + j) + 1) (([] ++ ((out.take j).flatMap DOff.cells)) ++ o.cells) (by simp [Act.eval]) ow4 (some ⟨g, q, none⟩) (out.length - j) (vcap - j) ((out.drop j).flatMap DOff.cells) (by simp [Act.eval]) HL2.out (HM2.out _ hB4) HC2.out (by unfold maxLen; omega) (by omega) hB4.size ?_
                      intro v5 X5 ow5 hg5 hk5
                      have hB5 := below_grown hB4 ow4 hg5 hB4.size
                      refine hK.out _ _ ⟨hOf.on hB5, hB5⟩ (fun hHeld => ?_)
                      clear hK K
                      (try simp only [Act.put, List.getElem_toArray, List.getElem_cons_succ, List.getElem_cons_zero, List.setIfInBounds_toArray, List.set_cons_succ, List.set_cons_zero])
                      refine wpAnyH_take (i := 12) (v := ?_) rfl (by kernel_rfl) (by kernel_rfl) (by kernel_rfl) (fun _ _ _ h => h) (Or.inl ⟨by kernel_rfl, ?_⟩) hHeld ?_
                      rotate_left
                      · (intro W hSw; (try dsimp only at hSw); go_simp; (try with_reducible rfl))
                      (try simp only [Act.put, List.getElem_toArray, List.getElem_cons_succ, List.getElem_cons_zero, List.setIfInBounds_toArray, List.set_cons_succ, List.set_cons_zero])
                      refine wpAnyH_done (by kernel_rfl) ?_ _
                      go_wp2
                      go_roundw
                      case rel => exact ⟨k + 1, insAt out o j, hlt, by go_num, HIn2.out, by rw [insAt_len _ _ (by first | exact hj | exact Nat.zero_le _)]; omega, HFin.out _ _ ow5, hBw.trans (hB5.mono hBw.size)⟩
                      case measure => simp [intOf]; omega
                  · go_simp
                    have hN1 : (X0.alloc (.cells #[.int .i64 o.v.a, .int .i64 o.v.b, .int .i64 o.v.c, .string o.v.p, .bool o.y, o.nv] 48)).heap[X0.heap.size]? = some (.cells #[.int .i64 o.v.a, .int .i64 o.v.b, .int .i64 o.v.c, .string o.v.p, .bool o.y, o.nv] 48) := Below_heap_new X0 _
                    have hB1 := hB0.alloc hB0.size (.cells #[.int .i64 o.v.a, .int .i64 o.v.b, .int .i64 o.v.c, .string o.v.p, .bool o.y, o.nv] 48)
                    refine hK.out _ _ ⟨hOf.on hB1, hB1⟩ (fun hHeld => ?_)
                    clear hK K
                    (try simp only [Act.put, List.getElem_toArray, List.getElem_cons_succ, List.getElem_cons_zero, List.setIfInBounds_toArray, List.set_cons_succ, List.set_cons_zero])
                    obtain ⟨bo, hbo⟩ : ∃ b, X0.heap.size = b := ⟨_, rfl⟩
                    rw [hbo] at hN1 ⊢
                    generalize X0.alloc (.cells #[.int .i64 o.v.a, .int .i64 o.v.b, .int .i64 o.v.c, .string o.v.p, .bool o.y, o.nv] 48) = X1 at *
                    refine wpAnyH_ready (rs := [0]) (by kernel_rfl) (by simp) ?_
                    refine AllReadyH.cons rfl (fun K hK => ?_) (AllReadyH.nil)
                    go_simp
                    obtain ⟨b0, hb0⟩ : ∃ b, X1.heap.size = b := ⟨_, rfl⟩
                    have ow0 : (X1.alloc (.cells #[] 48)).ownsRow X0.heap.size 48 6 (.slice (some ⟨b0, 0, none⟩) 0 0) 0 [] := by
                      rw [← hb0]; exact World.ownsRow_made (base := X0.heap.size) (size := 6) (e := 48) X1 #[] 0 hB1.size (by decide) rfl
                    have hB2 := hB1.alloc hB1.size (.cells #[] 48)
                    have hN2 := new_alloc hN1 (.cells #[] 48)
                    have hD2 : (Value.slice (some ⟨X1.heap.size, 0, none⟩) 0 0).ownBlock ≠ some bo := fun e => by
                      have h1 := (Array.getElem?_eq_some_iff.1 hN1).1
                      have e2 : X1.heap.size = bo := by injection e
                      omega
                    refine hK.out _ _ ⟨hOf.on hB2, hB2⟩ (fun hHeld => ?_)
                    clear hK K
                    (try simp only [Act.put, List.getElem_toArray, List.getElem_cons_succ, List.getElem_cons_zero, List.setIfInBounds_toArray, List.set_cons_succ, List.set_cons_zero])
                    rw [hb0] at hD2 ⊢
                    generalize X1.alloc (.cells #[] 48) = X2 at *
                    refine wpAnyH_ready (rs := [4]) (by kernel_rfl) (by simp) ?_
                    refine AllReadyH.cons rfl (fun K hK => ?_) (AllReadyH.nil)
                    refine step_app (by rfl) (.tmp 70) (.tmp 73) 22 (by rfl) X0.heap.size 48 i0' (.agg #[.int .i64 0, .int .i64 0, .int .i64 0, .string ⟨#[]⟩, .bool false, .slice none 0 0]) 6 72 Tryz.underlying22 hi hz0 hz1 hz2 rfl (by decide) (.slice (some ⟨b0, 0, none⟩) 0 0) 0 [] (by simp [Act.eval]) ow0 (some ⟨g, 0, none⟩) j vcap ((out.take j).flatMap DOff.cells) (by simp [Act.eval]) HL1.out (HM1.out _ hB2) HC1.out (by unfold maxLen; omega) (by omega) hB2.size ?_
                    intro v3 X3 ow3 hg3 hk3
                    have hB3 := below_grown hB2 ow0 hg3 hB2.size
                    have hN3 := new_kept hN2 hD2 hg3
                    have hD3 : v3.ownBlock ≠ some bo := by
                      have h1 := (Array.getElem?_eq_some_iff.1 hN2).1
                      rcases hk3 with e | e
                      · rw [e]; exact hD2
                      · rw [e]; intro e; have e2 : X2.heap.size = bo := by injection e
                        omega
                    refine hK.out _ _ ⟨hOf.on hB3, hB3⟩ (fun hHeld => ?_)
                    clear hK K
                    (try simp only [Act.put, List.getElem_toArray, List.getElem_cons_succ, List.getElem_cons_zero, List.setIfInBounds_toArray, List.set_cons_succ, List.set_cons_zero])
                    refine wpAnyH_ready (rs := [7]) (by kernel_rfl) (by simp) ?_
                    refine AllReadyH.cons rfl (fun K hK => ?_) (AllReadyH.nil)
                    refine step_app (by rfl) (.tmp 74) (.tmp 76) 22 (by rfl) X0.heap.size 48 i0' (.agg #[.int .i64 0, .int .i64 0, .int .i64 0, .string ⟨#[]⟩, .bool false, .slice none 0 0]) 6 72 Tryz.underlying22 hi hz0 hz1 hz2 rfl (by decide) v3 (0 + j) ([] ++ ((out.take j).flatMap DOff.cells)) (by simp [Act.eval]) ow3 (some ⟨bo, 0, none⟩) 1 1 o.cells (by simp [Act.eval]) rfl (.inr ⟨_, rfl, World.news_of_block hN3⟩) HC0.out (by unfold maxLen; omega) (by omega) hB3.size ?_
                    intro v4 X4 ow4 hg4 hk4
                    have hB4 := below_grown hB3 ow3 hg4 hB3.size
                    refine hK.out _ _ ⟨hOf.on hB4, hB4⟩ (fun hHeld => ?_)
                    clear hK K
                    (try simp only [Act.put, List.getElem_toArray, List.getElem_cons_succ, List.getElem_cons_zero, List.setIfInBounds_toArray, List.set_cons_succ, List.set_cons_zero])
                    refine wpAnyH_ready (rs := [11]) (by kernel_rfl) (by simp) ?_
                    refine AllReadyH.cons rfl (fun K hK => ?_) (AllReadyH.nil)
                    refine step_app (by rfl) (.tmp 77) (.tmp 80) 22 (by rfl) X0.heap.size 48 i0' (.agg #[.int .i64 0, .int .i64 0, .int .i64 0, .string ⟨#[]⟩, .bool false, .slice none 0 0]) 6 72 Tryz.underlying22 hi hz0 hz1 hz2 rfl (by decide) v4 ((0 + j) + 1) (([] ++ ((out.take j).flatMap DOff.cells)) ++ o.cells) (by simp [Act.eval]) ow4 (some ⟨g, q, none⟩) (out.length - j) (vcap - j) ((out.drop j).flatMap DOff.cells) (by simp [Act.eval]) HL2.out (HM2.out _ hB4) HC2.out (by unfold maxLen; omega) (by omega) hB4.size ?_
                    intro v5 X5 ow5 hg5 hk5
                    have hB5 := below_grown hB4 ow4 hg5 hB4.size
                    refine hK.out _ _ ⟨hOf.on hB5, hB5⟩ (fun hHeld => ?_)
                    clear hK K
                    (try simp only [Act.put, List.getElem_toArray, List.getElem_cons_succ, List.getElem_cons_zero, List.setIfInBounds_toArray, List.set_cons_succ, List.set_cons_zero])
                    refine wpAnyH_take (i := 12) (v := ?_) rfl (by kernel_rfl) (by kernel_rfl) (by kernel_rfl) (fun _ _ _ h => h) (Or.inl ⟨by kernel_rfl, ?_⟩) hHeld ?_
                    rotate_left
                    · (intro W hSw; (try dsimp only at hSw); go_simp; (try with_reducible rfl))
                    (try simp only [Act.put, List.getElem_toArray, List.getElem_cons_succ, List.getElem_cons_zero, List.setIfInBounds_toArray, List.set_cons_succ, List.set_cons_zero])
                    refine wpAnyH_done (by kernel_rfl) ?_ _
                    go_wp2
                    go_roundw
                    case rel => exact ⟨k + 1, insAt out o j, hlt, by go_num, HIn2.out, by rw [insAt_len _ _ (by first | exact hj | exact Nat.zero_le _)]; omega, HFin.out _ _ ow5, hBw.trans (hB5.mono hBw.size)⟩
                    case measure => simp [intOf]; omega
    · have q5 : decide (k < os.length) = false := decide_eq_false hlt
      have hins2 := HIn.out
      rw [List.take_of_length_le (by omega)] at hins2
      have hbw := HW.out.trans (hb.mono HW.out.size)
      have HF : Hid (OffersPost lock nm needs os w (.returned (.slice va out.length vcap)) wr) :=
        ⟨_, out, rfl, hins2, ORow.of_owns HOw.out, hbw, (FreshV.of_owns HOw.out).mono HW.out.size⟩
      clear hlt hins2
      go_wp2_with fail
      go_ret
      exact HF.out
end Go.Proofs.YtbihdgnhdlpmgaaGreatDoor
