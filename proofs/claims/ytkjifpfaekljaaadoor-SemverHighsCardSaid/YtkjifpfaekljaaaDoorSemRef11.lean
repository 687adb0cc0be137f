/- The reference of layer 4: Highest: a walk. -/
import Derived.Test.YtkjifpfaekljaaaDoorSemProg7
namespace Go.Proofs.YtkjifpfaekljaaaDoor
open Go.RowKit
theorem refCmp_as (x y : V4) (r : Int) (h : V4.cmp x y = r) (w : World) (hp : x.p.size ≤ 300) (hp' : y.p.size ≤ 300) :
    Calls Tryd.prog 20 #[.agg #[.int .i64 x.a, .int .i64 x.b, .int .i64 x.c, .string x.p], .agg #[.int .i64 y.a, .int .i64 y.b, .int .i64 y.c, .string y.p]] w fun e w' => e = .returned (.int .i64 r) ∧ Below w.heap.size w w' := by
  subst h; exact refCmp_any _ _ _ _ _ _ _ _ w hp hp'
def RHi (vs : List V4) (w : World) (i : Value) (wr : World) : Prop :=
  ∃ k : Nat, k ≤ vs.length ∧ i = .int .i64 (k : Int) ∧ (∀ j (h : j < vs.length), j < k → isMax V4.cmp vs vs[j] = false) ∧
    Below (w.heap.size + 1) (w.alloc (.cells #[.int .i64 0, .int .i64 0, .int .i64 0, .string ⟨#[]⟩] 23)) wr
def RIn (vs : List V4) (x : V4) (wo : World) (b m : Value) (wr : World) : Prop :=
  ∃ k : Nat, k ≤ vs.length ∧ m = .int .i64 (k : Int) ∧ b = .bool ((vs.take k).all fun y => decide (V4.cmp y x ≤ 0)) ∧ Below wo.heap.size wo wr
set_option maxRecDepth 100000 in
set_option maxHeartbeats 2000000 in
theorem refHighest_any (v : Value) (vs : List V4) (w : World) (hv : Vers w v vs) (hlen : ∃ a cap, v = .slice a vs.length cap) (hp : ∀ x ∈ vs, x.p.size ≤ 300) (hn : vs.length ≤ 1000) :
    Calls Tryd.prog 22 #[v] w fun e w' => e = .returned (.tuple #[(bestOf V4.cmp V4.zero vs).val, .bool (decide (0 < vs.length))]) ∧ Below w.heap.size w w' := by
  have HP := Lib.hid hp
  clear hp
  obtain ⟨a0, cap0, rfl⟩ := hlen
  rcases hv.cases.2 with ⟨a, cap, hva, rfl⟩ | ⟨bx, ox, cap, hva, hn0, hbx, hc⟩
  · have hW := (Below.refl w.heap.size w).alloc (Nat.le_refl _) (.cells #[.int .i64 0, .int .i64 0, .int .i64 0, .string ⟨#[]⟩] 23)
    clear hv hva
    go_enter Tryd.func22, Tryd.ntmps22
    go_wp2_with fail
    go_loop [4] (fun i => i = .int .i64 0) (fun _ => 0)
    case atStart => rfl
    case round =>
      subst hrel
      go_wp2_with fail
      exact bodyPost_ret (v := .tuple #[.agg #[.int .i64 0, .int .i64 0, .int .i64 0, .string ⟨#[]⟩], .bool false]) (by simp [results, Tryd.results22, go_sem]) rfl ⟨rfl, hW⟩
  have ha0 : a0 = some ⟨bx, ox, none⟩ := by injection hva
  have hcap : cap0 = cap := by injection hva
  subst ha0 hcap
  have HC := Lib.hid hc
  clear hc hv hva
  go_enter Tryd.func22, Tryd.ntmps22
  go_wp2_with fail
  go_loopw [4, 5, 6] (fun i _ _ wr => RHi vs w i wr) (fun i _ _ _ => vs.length - (intOf i).toNat)
  case atStart => exact ⟨0, Nat.zero_le _, rfl, fun j _ hj => absurd hj (by omega), Below.refl _ _⟩
  case round =>
    obtain ⟨k, hk, rfl, hno, hx⟩ := hrel
    have HNo := Lib.hid hno
    have hW := below_first hx
    clear hno
    by_cases hlt : k < vs.length
    · have i0 : (0 : Int) ≤ (k : Int) := by omega
      have i1 : (k : Int) < (vs.length : Int) := by omega
      have hpx := HP.out _ (List.getElem_mem hlt)
      obtain ⟨x, hxe⟩ : ∃ x, vs[k] = x := ⟨_, rfl⟩
      rw [hxe] at hpx
      have HX := Lib.hid hxe
      clear hxe
      go_wp2_with fail
      obtain ⟨wo, hwo⟩ : ∃ wo : World, wo = wr := ⟨_, rfl⟩
      subst hwo
      go_loopw [5, 6] (fun b m wi => RIn vs x wo b m wi) (fun _ m _ => vs.length - (intOf m).toNat)
      case atStart => exact ⟨0, Nat.zero_le _, rfl, rfl, Below.refl _ _⟩
      case round =>
        obtain ⟨m, hm, rfl, rfl, hbi⟩ := hrel
        have hWi := below_then hW hbi
        obtain ⟨bb, hbb⟩ : ∃ bb, ((vs.take m).all fun y => decide (V4.cmp y x ≤ 0)) = bb := ⟨_, rfl⟩
        rw [hbb]
        have HBB := Lib.hid hbb
        clear hbb
        by_cases hml : m < vs.length
        · have m0 : (0 : Int) ≤ (m : Int) := by omega
          have m1 : (m : Int) < (vs.length : Int) := by omega
          have HT := Lib.hid (List.take_succ_eq_append_getElem hml)
          cases bb
          · have HN : Hid (((vs.take (m + 1)).all fun y => decide (V4.cmp y x ≤ 0)) = false) := by
              show _ = _
              rw [HT.out, List.all_append, HBB.out]; rfl
            go_wp2_with fail
            go_quiet (fail)
            go_wp2_with fail
            go_roundw
            case rel => exact ⟨m + 1, hml, by go_num, by rw [HN.out], below_drewN hbi _⟩
            case measure => simp [intOf]; omega
          · obtain ⟨g0, g1, g2, g3⟩ := HC.out m hml
            obtain ⟨e0, e1, e2, e3⟩ := HC.out k hlt
            have c0 := (hWi.cell (p := ⟨bx, ox + m * 4, none⟩) hbx).trans g0
            have c1 := (hWi.cell (p := ⟨bx, ox + m * 4 + 1, none⟩) hbx).trans g1
            have c2 := (hWi.cell (p := ⟨bx, ox + m * 4 + 2, none⟩) hbx).trans g2
            have c3 := (hWi.cell (p := ⟨bx, ox + m * 4 + 3, none⟩) hbx).trans g3
            have d0 := (hWi.cell (p := ⟨bx, ox + k * 4, none⟩) hbx).trans e0
            have d1 := (hWi.cell (p := ⟨bx, ox + k * 4 + 1, none⟩) hbx).trans e1
            have d2 := (hWi.cell (p := ⟨bx, ox + k * 4 + 2, none⟩) hbx).trans e2
            have d3 := (hWi.cell (p := ⟨bx, ox + k * 4 + 3, none⟩) hbx).trans e3
            have hpy := HP.out _ (List.getElem_mem hml)
            obtain ⟨y, hye⟩ : ∃ y, vs[m] = y := ⟨_, rfl⟩
            rw [hye] at c0 c1 c2 c3 hpy
            rw [HX.out] at d0 d1 d2 d3
            obtain ⟨r, hr⟩ : ∃ r, V4.cmp y x = r := ⟨_, rfl⟩
            have HR := Lib.hid hr
            have HN : Hid (((vs.take (m + 1)).all fun y => decide (V4.cmp y x ≤ 0)) = decide (r ≤ 0)) := by
              show _ = _
              rw [HT.out, List.all_append, HBB.out, hye, ← hr]; simp
            clear g0 g1 g2 g3 e0 e1 e2 e3 hye hr
            go_wp2_with fail
            refine region_still_tail 10 (by kernel_rfl) (by kernel_rfl) ?_
            simp only [List.take_succ_cons, List.take_zero, List.drop_succ_cons, List.drop_zero]
            repeat still_step
            refine wpStill_nil ?_
            go_wp2_with fail
            refine (refCmp_as y x r HR.out _ hpy hpx).mono ?_
            rintro e w1 ⟨rfl, hb1⟩
            go_wp2_with fail
            go_roundw
            case rel => exact ⟨m + 1, hml, by go_num, by rw [HN.out], below_then hbi.drew hb1⟩
            case measure => simp [intOf]; omega
        · have q : decide (m < vs.length) = false := by simp; omega
          obtain rfl : m = vs.length := by omega
          have hm1 : isMax V4.cmp vs x = bb := by
            have := HBB.out
            rwa [List.take_of_length_le (Nat.le_refl _)] at this
          cases bb
          · have HM := Lib.hid hm1
            have hxi := box_then hx hbi
            clear hm1
            go_wp2_with fail
            go_roundw
            case rel =>
              refine ⟨k + 1, hlt, by go_num, fun j hj hjk => ?_, hxi⟩
              by_cases h : j = k
              · subst h; rw [HX.out]; exact HM.out
              · exact HNo.out j hj (by omega)
            case measure => simp [intOf]; omega
          · have HBest : Hid (bestOf V4.cmp V4.zero vs = x) := by
              show _ = _
              rw [← HX.out]
              exact best_max good_v4 V4.zero hlt (by rw [HX.out]; exact hm1) (fun j hj => HNo.out j (by omega) hj)
            have HD : Hid (decide (0 < vs.length) = true) := decide_eq_true hn0
            obtain ⟨e0, e1, e2, e3⟩ := HC.out k hlt
            have d0 := (hWi.cell (p := ⟨bx, ox + k * 4, none⟩) hbx).trans e0
            have d1 := (hWi.cell (p := ⟨bx, ox + k * 4 + 1, none⟩) hbx).trans e1
            have d2 := (hWi.cell (p := ⟨bx, ox + k * 4 + 2, none⟩) hbx).trans e2
            have d3 := (hWi.cell (p := ⟨bx, ox + k * 4 + 3, none⟩) hbx).trans e3
            rw [HX.out] at d0 d1 d2 d3
            have hxi := box_then hx hbi
            have c0 := box_cells hxi 0
            have c1 := box_cells hxi 1
            have c2 := box_cells hxi 2
            have c3 := box_cells hxi 3
            have f0 := box_free hxi 0
            have f1 := box_free hxi 1
            have f2 := box_free hxi 2
            have f3 := box_free hxi 3
            simp at c0 c1 c2 c3
            clear e0 e1 e2 e3 hm1
            go_wp2_with fail
            exact bodyPost_ret (v := .tuple #[.agg #[.int .i64 x.a, .int .i64 x.b, .int .i64 x.c, .string x.p], .bool true]) (by simp [results, Tryd.results22, go_sem, c0, c1, c2, c3]) rfl ⟨by rw [HBest.out, HD.out]; rfl, ((((hWi.setCell (Nat.le_refl _) _).setCell (Nat.le_refl _) _).setCell (Nat.le_refl _) _).setCell (Nat.le_refl _) _)⟩
    · have q : decide (k < vs.length) = false := by simp; omega
      obtain rfl : k = vs.length := by omega
      exfalso
      exact best_some good_v4 V4.zero (List.length_pos_iff.1 hn0) (fun j hj => HNo.out j hj hj)
end Go.Proofs.YtkjifpfaekljaaaDoor
