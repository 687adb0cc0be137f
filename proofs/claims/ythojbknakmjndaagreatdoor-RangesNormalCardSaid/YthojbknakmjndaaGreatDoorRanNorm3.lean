/- The program's ranges: Normal: a walk. -/
import Derived.Test.YthojbknakmjndaaGreatDoorRanNorm2
import Derived.Test.YthojbknakmjndaaGreatDoorRanRef5
namespace Go.Proofs.YthojbknakmjndaaGreatDoor
open Go.RowKit
theorem own_app {w : World} {B : Nat} {v : Value} {bs : List Bnd} {x : Bnd} {n : Nat} (h : w.ownsRow B 54 5 v n (bs.flatMap Bnd.cells ++ [.int .i64 x.op, .int .i64 x.v.a, .int .i64 x.v.b, .int .i64 x.v.c, .string x.v.p])) : w.ownsRow B 54 5 v n ((bs ++ [x]).flatMap Bnd.cells) := by
  rw [List.flatMap_append]; exact h
set_option maxRecDepth 100000 in
set_option maxHeartbeats 8000000 in
theorem normal_any (v : Value) (rs : List (Value × List Bnd)) (w : World) (hE : Env w) (hv : Rngs w v rs) (hlen : ∃ a cap, v = .slice a rs.length cap) (hsz : ∀ r ∈ rs, ∀ x ∈ r.2, x.v.p.size ≤ 300) :
    Calls Tryz.prog 22 #[v] w fun e w' => ∃ x, e = .returned x ∧ Bnds w' x (normalR (rs.map Prod.snd)) ∧ (∃ a cap, x = .slice a (normalR (rs.map Prod.snd)).length cap) ∧ Below w.heap.size w w' := by
  have hmf : ∀ (fn : Fn) (first cap : Array Value) (w : World), (Instr.makeFunc fn first cap).run Tryz.prog w = .ok (.func fn first cap) w := fun _ _ _ _ => rfl
  have HI := Lib.hid (info_parts info_bound)
  have HE := Lib.hid hE
  have HEach := Lib.hid (fun w1 hw hx => each_any w HE.out w.heap.size (Nat.le_refl _) v rs w1 hv hlen hsz hw hx)
  obtain ⟨E, hEe⟩ : ∃ E, endsOf (rs.map Prod.snd).flatten = E := ⟨_, rfl⟩
  have hops := ends_ops (rs.map Prod.snd).flatten
  have hse := ends_sz (rs.map Prod.snd).flatten (fun b hb => by
    have := mem_flat hsz rs.length
    rw [List.take_of_length_le (Nat.le_refl _)] at this
    exact this b hb)
  rw [hEe] at hops hse HEach
  have HN : Hid (normalR (rs.map Prod.snd) = normalE E) := by show _ = _; unfold normalR; rw [hEe]
  obtain ⟨N, hN⟩ : ∃ N, normalR (rs.map Prod.snd) = N := ⟨_, rfl⟩
  rw [hN] at HN ⊢
  obtain ⟨⟨lo, lv⟩, ⟨ho, hi⟩⟩ := E
  simp only at hops hse
  obtain ⟨hse1, hse2⟩ := hse
  have HOps := Lib.hid hops
  clear hv hlen hsz hEe hN hE hops
  by_cases h0 : lo = 0
  · have q0 : (lo != 0) = false := by simpa using h0
    have q0' : decide (lo = 0) = true := decide_eq_true h0
    by_cases h1 : ho = 0
    · have q1 : (ho != 0) = false := by simpa using h1
      have q1' : decide (ho = 0) = true := decide_eq_true h1
      have HF : Hid (N = []) := by show _ = _; rw [HN.out]; unfold normalE; rw [if_pos h0, if_pos h1]
      clear h0 h1
      go_enter Tryz.func22, Tryz.ntmps22
      go_wp2_with fail
      refine (HEach.out _ ((Below.refl _ _).alloc (Nat.le_refl _) _) (by refine ⟨⟨?_, ?_, ?_, ?_, ?_, ?_, ?_, ?_, ?_, ?_⟩, ?_, ?_, ?_, ?_, ?_, ?_, ?_, ?_, ?_, ?_⟩ <;> (go_simp; try rfl))).mono ?_
      rintro e w1 ⟨rfl, hx, hw⟩
      have HX := Lib.hid hx
      obtain ⟨⟨e0, e1, e2, e3, e4, e5, e6, e7, e8, e9⟩, g0, g1, g2, g3, g4, g5, g6, g7, g8, g9⟩ := hx
      simp only at e0 e1 e2 e3 e4 e5 e6 e7 e8 e9
      have hbl := cell_lt e0
      clear g0 g1 g2 g3 g4 g5 g6 g7 g8 g9
      go_wp2_with fail
      go_ret
      exact ⟨_, rfl, by rw [HF.out]; exact bnds_nil _, ⟨_, _, by rw [HF.out]; rfl⟩, hw⟩
    · have q1 : (ho != 0) = true := by simpa using h1
      have q1' : decide (ho = 0) = false := decide_eq_false h1
      have HF : Hid (N = [⟨ho, hi⟩]) := by show _ = _; rw [HN.out]; unfold normalE; rw [if_pos h0, if_neg h1]
      clear h0 h1
      go_enter Tryz.func22, Tryz.ntmps22
      go_wp2_with fail
      refine (HEach.out _ ((Below.refl _ _).alloc (Nat.le_refl _) _) (by refine ⟨⟨?_, ?_, ?_, ?_, ?_, ?_, ?_, ?_, ?_, ?_⟩, ?_, ?_, ?_, ?_, ?_, ?_, ?_, ?_, ?_, ?_⟩ <;> (go_simp; try rfl))).mono ?_
      rintro e w1 ⟨rfl, hx, hw⟩
      have HX := Lib.hid hx
      obtain ⟨⟨e0, e1, e2, e3, e4, e5, e6, e7, e8, e9⟩, g0, g1, g2, g3, g4, g5, g6, g7, g8, g9⟩ := hx
      simp only at e0 e1 e2 e3 e4 e5 e6 e7 e8 e9
      have hbl := cell_lt e0
      clear g0 g1 g2 g3 g4 g5 g6 g7 g8 g9
      obtain ⟨i0', hi1, hz0, hz1, hz2⟩ := HI.out
      go_wp2_with (at_builtin; go_must (refine wpList_append_own _ rfl _ _ 23 rfl w1.heap.size 54 i0' (.agg #[.int .i64 0, .int .i64 0, .int .i64 0, .int .i64 0, .string ⟨#[]⟩]) 5 48 Tryz.underlying23 hi1 hz0 hz1 hz2 rfl (by decide) _ _ _ rfl ((World.ownsRow_nil w1 w1.heap.size 54 5).alloc _) ⟨_, 0, none⟩ 1 1 [.int .i64 ho, .int .i64 hi.a, .int .i64 hi.b, .int .i64 hi.c, .string hi.p] rfl rfl ?c1 ?c2 ?c3 ?c4 ?c5 ?_))
      case c1 => exact cells5_at _ _ (by simp) _ _ _ _ _ _
      case c2 => intro u hu; simp at hu; rcases hu with rfl | rfl | rfl | rfl | rfl <;> rfl
      case c3 => unfold maxLen; omega
      case c4 => omega
      case c5 => simp; try omega
      intro v2 w2 hown2 hg2 _
      have hb2 := below_grown ((Below.refl w1.heap.size w1).alloc (Nat.le_refl _) _) ((World.ownsRow_nil w1 w1.heap.size 54 5).alloc _) hg2 (by simp)
      obtain ⟨g2, cap2, hv2⟩ := Joins.ownsRow_form hown2 (by omega)
      subst hv2
      have HO2 := Lib.hid (own_app (bs := []) (x := ⟨ho, hi⟩) hown2)
      have hw2 := hw.trans (hb2.mono (Nat.le_of_lt hbl))
      have hx2 := HX.out.below hb2 hbl
      clear e0 e1 e2 e3 e4 e5 e6 e7 e8 e9
      obtain ⟨⟨e0, e1, e2, e3, e4, e5, e6, e7, e8, e9⟩, _⟩ := hx2
      simp only at e0 e1 e2 e3 e4 e5 e6 e7 e8 e9
      clear hg2 hown2
      go_wp2_with fail
      go_ret
      exact ⟨_, rfl, by rw [HF.out]; exact Bnds.of_owns HO2.out, ⟨_, _, by rw [HF.out]; rfl⟩, hw2⟩
  have q0 : (lo != 0) = true := by simpa using h0
  have q0' : decide (lo = 0) = false := decide_eq_false h0
  by_cases h1 : ho = 0
  · have q1 : (ho != 0) = false := by simpa using h1
    have q1' : decide (ho = 0) = true := decide_eq_true h1
    have HF : Hid (N = [⟨lo, lv⟩]) := by show _ = _; rw [HN.out]; unfold normalE; rw [if_neg h0, if_pos h1]
    clear h0 h1
    go_enter Tryz.func22, Tryz.ntmps22
    go_wp2_with fail
    refine (HEach.out _ ((Below.refl _ _).alloc (Nat.le_refl _) _) (by refine ⟨⟨?_, ?_, ?_, ?_, ?_, ?_, ?_, ?_, ?_, ?_⟩, ?_, ?_, ?_, ?_, ?_, ?_, ?_, ?_, ?_, ?_⟩ <;> (go_simp; try rfl))).mono ?_
    rintro e w1 ⟨rfl, hx, hw⟩
    have HX := Lib.hid hx
    obtain ⟨⟨e0, e1, e2, e3, e4, e5, e6, e7, e8, e9⟩, g0, g1, g2, g3, g4, g5, g6, g7, g8, g9⟩ := hx
    simp only at e0 e1 e2 e3 e4 e5 e6 e7 e8 e9
    have hbl := cell_lt e0
    clear g0 g1 g2 g3 g4 g5 g6 g7 g8 g9
    obtain ⟨i0', hi1, hz0, hz1, hz2⟩ := HI.out
    go_wp2_with (at_builtin; go_must (refine wpList_append_own _ rfl _ _ 23 rfl w1.heap.size 54 i0' (.agg #[.int .i64 0, .int .i64 0, .int .i64 0, .int .i64 0, .string ⟨#[]⟩]) 5 48 Tryz.underlying23 hi1 hz0 hz1 hz2 rfl (by decide) _ _ _ rfl ((World.ownsRow_nil w1 w1.heap.size 54 5).alloc _) ⟨_, 0, none⟩ 1 1 [.int .i64 lo, .int .i64 lv.a, .int .i64 lv.b, .int .i64 lv.c, .string lv.p] rfl rfl ?c1 ?c2 ?c3 ?c4 ?c5 ?_))
    case c1 => exact cells5_at _ _ (by simp) _ _ _ _ _ _
    case c2 => intro u hu; simp at hu; rcases hu with rfl | rfl | rfl | rfl | rfl <;> rfl
    case c3 => unfold maxLen; omega
    case c4 => omega
    case c5 => simp; try omega
    intro v2 w2 hown2 hg2 _
    have hb2 := below_grown ((Below.refl w1.heap.size w1).alloc (Nat.le_refl _) _) ((World.ownsRow_nil w1 w1.heap.size 54 5).alloc _) hg2 (by simp)
    obtain ⟨g2, cap2, hv2⟩ := Joins.ownsRow_form hown2 (by omega)
    subst hv2
    have HO2 := Lib.hid (own_app (bs := []) (x := ⟨lo, lv⟩) hown2)
    have hw2 := hw.trans (hb2.mono (Nat.le_of_lt hbl))
    have hx2 := HX.out.below hb2 hbl
    clear e0 e1 e2 e3 e4 e5 e6 e7 e8 e9
    obtain ⟨⟨e0, e1, e2, e3, e4, e5, e6, e7, e8, e9⟩, _⟩ := hx2
    simp only at e0 e1 e2 e3 e4 e5 e6 e7 e8 e9
    clear hg2 hown2
    go_wp2_with fail
    go_ret
    exact ⟨_, rfl, by rw [HF.out]; exact Bnds.of_owns HO2.out, ⟨_, _, by rw [HF.out]; rfl⟩, hw2⟩
  have q1 : (ho != 0) = true := by simpa using h1
  have q1' : decide (ho = 0) = false := decide_eq_false h1
  obtain ⟨c, hc⟩ : ∃ c, V4.cmp lv hi = c := ⟨_, rfl⟩
  have HN2 : Hid (N = if c = 0 ∧ lo = 4 ∧ ho = 2 then [⟨3, lv⟩] else if 0 ≤ c then [Bnd.nothing] else [⟨lo, lv⟩, ⟨ho, hi⟩]) := by
    show _ = _; rw [HN.out]; unfold normalE; rw [if_neg h0, if_neg h1]; simp only [hc]
  have HCm := Lib.hid (fun w h => cmpQ_as lv hi c hc w h hse1 hse2)
  clear h0 h1 hc HN
  by_cases hz : c = 0
  · have qz : (c == 0) = true := by simpa using hz
    have qg : decide (0 ≤ c) = true := decide_eq_true (by omega)
    by_cases h4 : lo = 4
    · have q4 : (lo == 4) = true := by simpa using h4
      by_cases h2 : ho = 2
      · have q2 : (ho == 2) = true := by simpa using h2
        have HF : Hid (N = [⟨3, lv⟩]) := by show _ = _; rw [HN2.out, if_pos ⟨hz, h4, h2⟩]
        clear hz h4 h2
        go_enter Tryz.func22, Tryz.ntmps22
        go_wp2_with fail
        refine (HEach.out _ ((Below.refl _ _).alloc (Nat.le_refl _) _) (by refine ⟨⟨?_, ?_, ?_, ?_, ?_, ?_, ?_, ?_, ?_, ?_⟩, ?_, ?_, ?_, ?_, ?_, ?_, ?_, ?_, ?_, ?_⟩ <;> (go_simp; try rfl))).mono ?_
        rintro e w1 ⟨rfl, hx, hw⟩
        have HX := Lib.hid hx
        obtain ⟨⟨e0, e1, e2, e3, e4, e5, e6, e7, e8, e9⟩, g0, g1, g2, g3, g4, g5, g6, g7, g8, g9⟩ := hx
        simp only at e0 e1 e2 e3 e4 e5 e6 e7 e8 e9
        have hbl := cell_lt e0
        clear g0 g1 g2 g3 g4 g5 g6 g7 g8 g9
        obtain ⟨i0', hi1, hz0, hz1, hz2⟩ := HI.out
        go_wp2_with (at_builtin; go_must (refine wpList_append_own _ rfl _ _ 23 rfl w1.heap.size 54 i0' (.agg #[.int .i64 0, .int .i64 0, .int .i64 0, .int .i64 0, .string ⟨#[]⟩]) 5 48 Tryz.underlying23 hi1 hz0 hz1 hz2 rfl (by decide) _ _ _ rfl ((World.ownsRow_nil w1 w1.heap.size 54 5).alloc _) ⟨_, 0, none⟩ 1 1 [.int .i64 lo, .int .i64 lv.a, .int .i64 lv.b, .int .i64 lv.c, .string lv.p] rfl rfl ?c1 ?c2 ?c3 ?c4 ?c5 ?_))
        case c1 => exact cells5_at _ _ (by simp) _ _ _ _ _ _
        case c2 => intro u hu; simp at hu; rcases hu with rfl | rfl | rfl | rfl | rfl <;> rfl
        case c3 => unfold maxLen; omega
        case c4 => omega
        case c5 => simp; try omega
        intro v2 w2 hown2 hg2 _
        have hb2 := below_grown ((Below.refl w1.heap.size w1).alloc (Nat.le_refl _) _) ((World.ownsRow_nil w1 w1.heap.size 54 5).alloc _) hg2 (by simp)
        obtain ⟨g2, cap2, hv2⟩ := Joins.ownsRow_form hown2 (by omega)
        subst hv2
        have HO2 := Lib.hid (own_app (bs := []) (x := ⟨lo, lv⟩) hown2)
        have hx2 := HX.out.below hb2 hbl
        clear e0 e1 e2 e3 e4 e5 e6 e7 e8 e9
        obtain ⟨⟨e0, e1, e2, e3, e4, e5, e6, e7, e8, e9⟩, _⟩ := hx2
        simp only at e0 e1 e2 e3 e4 e5 e6 e7 e8 e9
        have hs2 := hb2.size
        clear hg2 hown2
        obtain ⟨i0', hi1, hz0, hz1, hz2⟩ := HI.out
        go_wp2_with (at_builtin; go_must (refine wpList_append_own _ rfl _ _ 23 rfl w1.heap.size 54 i0' (.agg #[.int .i64 0, .int .i64 0, .int .i64 0, .int .i64 0, .string ⟨#[]⟩]) 5 48 Tryz.underlying23 hi1 hz0 hz1 hz2 rfl (by decide) _ _ _ rfl (HO2.out.alloc _) ⟨_, 0, none⟩ 1 1 [.int .i64 ho, .int .i64 hi.a, .int .i64 hi.b, .int .i64 hi.c, .string hi.p] rfl rfl ?c1 ?c2 ?c3 ?c4 ?c5 ?_))
        case c1 => exact cells5_at _ _ (by simp) _ _ _ _ _ _
        case c2 => intro u hu; simp at hu; rcases hu with rfl | rfl | rfl | rfl | rfl <;> rfl
        case c3 => unfold maxLen; omega
        case c4 => omega
        case c5 => simp; try omega
        intro v3 w3 hown3 hg3 _
        have hb3 := below_grown (hb2.alloc hs2 _) (HO2.out.alloc _) hg3 (by simp; omega)
        obtain ⟨g3, cap3, hv3⟩ := Joins.ownsRow_form hown3 (by omega)
        subst hv3
        have HO3 := Lib.hid (own_app (bs := [⟨lo, lv⟩]) (x := ⟨ho, hi⟩) hown3)
        have hx3 := HX.out.below hb3 hbl
        clear e0 e1 e2 e3 e4 e5 e6 e7 e8 e9
        obtain ⟨⟨e0, e1, e2, e3, e4, e5, e6, e7, e8, e9⟩, _⟩ := hx3
        simp only at e0 e1 e2 e3 e4 e5 e6 e7 e8 e9
        have hs3 := hb3.size
        clear hg3 hown3
        go_wp2_with fail
        refine region_still_tail 10 (by kernel_rfl) (by kernel_rfl) ?_
        simp only [List.take_succ_cons, List.take_zero, List.drop_succ_cons, List.drop_zero]
        repeat still_step
        refine wpStill_nil ?_
        go_wp2_with fail
        have hw3 := (hw.trans (hb3.mono (Nat.le_of_lt hbl))).drew
        refine (HCm.out _ (HE.out.below hw3)).mono ?_
        rintro e w5 ⟨rfl, hb5⟩
        have hw5 := below_then hw3 hb5
        have hb35 := hb3.drew.trans (hb5.mono hs3)
        have HO5 := Lib.hid (owns_below (owns_below HO3.out ((Below.refl _ _).drew)) hb5)
        have hx5 := HX.out.below hb35 hbl
        clear e0 e1 e2 e3 e4 e5 e6 e7 e8 e9
        obtain ⟨⟨e0, e1, e2, e3, e4, e5, e6, e7, e8, e9⟩, _⟩ := hx5
        simp only at e0 e1 e2 e3 e4 e5 e6 e7 e8 e9
        go_wp2_with fail
        go_ret
        exact near_fin w _ _ _ HF.out hw5 _ _ _ _ rfl rfl (by simp) (by simp [maxLen])
      · have q2 : (ho == 2) = false := by simpa using h2
        have HF : Hid (N = [Bnd.nothing]) := by show _ = _; rw [HN2.out, if_neg (fun h => h2 h.2.2), if_pos (by omega)]
        clear hz h4 h2
        go_enter Tryz.func22, Tryz.ntmps22
        go_wp2_with fail
        refine (HEach.out _ ((Below.refl _ _).alloc (Nat.le_refl _) _) (by refine ⟨⟨?_, ?_, ?_, ?_, ?_, ?_, ?_, ?_, ?_, ?_⟩, ?_, ?_, ?_, ?_, ?_, ?_, ?_, ?_, ?_, ?_⟩ <;> (go_simp; try rfl))).mono ?_
        rintro e w1 ⟨rfl, hx, hw⟩
        have HX := Lib.hid hx
        obtain ⟨⟨e0, e1, e2, e3, e4, e5, e6, e7, e8, e9⟩, g0, g1, g2, g3, g4, g5, g6, g7, g8, g9⟩ := hx
        simp only at e0 e1 e2 e3 e4 e5 e6 e7 e8 e9
        have hbl := cell_lt e0
        clear g0 g1 g2 g3 g4 g5 g6 g7 g8 g9
        obtain ⟨i0', hi1, hz0, hz1, hz2⟩ := HI.out
        go_wp2_with (at_builtin; go_must (refine wpList_append_own _ rfl _ _ 23 rfl w1.heap.size 54 i0' (.agg #[.int .i64 0, .int .i64 0, .int .i64 0, .int .i64 0, .string ⟨#[]⟩]) 5 48 Tryz.underlying23 hi1 hz0 hz1 hz2 rfl (by decide) _ _ _ rfl ((World.ownsRow_nil w1 w1.heap.size 54 5).alloc _) ⟨_, 0, none⟩ 1 1 [.int .i64 lo, .int .i64 lv.a, .int .i64 lv.b, .int .i64 lv.c, .string lv.p] rfl rfl ?c1 ?c2 ?c3 ?c4 ?c5 ?_))
        case c1 => exact cells5_at _ _ (by simp) _ _ _ _ _ _
        case c2 => intro u hu; simp at hu; rcases hu with rfl | rfl | rfl | rfl | rfl <;> rfl
        case c3 => unfold maxLen; omega
        case c4 => omega
        case c5 => simp; try omega
        intro v2 w2 hown2 hg2 _
        have hb2 := below_grown ((Below.refl w1.heap.size w1).alloc (Nat.le_refl _) _) ((World.ownsRow_nil w1 w1.heap.size 54 5).alloc _) hg2 (by simp)
        obtain ⟨g2, cap2, hv2⟩ := Joins.ownsRow_form hown2 (by omega)
        subst hv2
        have HO2 := Lib.hid (own_app (bs := []) (x := ⟨lo, lv⟩) hown2)
        have hx2 := HX.out.below hb2 hbl
        clear e0 e1 e2 e3 e4 e5 e6 e7 e8 e9
        obtain ⟨⟨e0, e1, e2, e3, e4, e5, e6, e7, e8, e9⟩, _⟩ := hx2
        simp only at e0 e1 e2 e3 e4 e5 e6 e7 e8 e9
        have hs2 := hb2.size
        clear hg2 hown2
        obtain ⟨i0', hi1, hz0, hz1, hz2⟩ := HI.out
        go_wp2_with (at_builtin; go_must (refine wpList_append_own _ rfl _ _ 23 rfl w1.heap.size 54 i0' (.agg #[.int .i64 0, .int .i64 0, .int .i64 0, .int .i64 0, .string ⟨#[]⟩]) 5 48 Tryz.underlying23 hi1 hz0 hz1 hz2 rfl (by decide) _ _ _ rfl (HO2.out.alloc _) ⟨_, 0, none⟩ 1 1 [.int .i64 ho, .int .i64 hi.a, .int .i64 hi.b, .int .i64 hi.c, .string hi.p] rfl rfl ?c1 ?c2 ?c3 ?c4 ?c5 ?_))
        case c1 => exact cells5_at _ _ (by simp) _ _ _ _ _ _
        case c2 => intro u hu; simp at hu; rcases hu with rfl | rfl | rfl | rfl | rfl <;> rfl
        case c3 => unfold maxLen; omega
        case c4 => omega
        case c5 => simp; try omega
        intro v3 w3 hown3 hg3 _
        have hb3 := below_grown (hb2.alloc hs2 _) (HO2.out.alloc _) hg3 (by simp; omega)
        obtain ⟨g3, cap3, hv3⟩ := Joins.ownsRow_form hown3 (by omega)
        subst hv3
        have HO3 := Lib.hid (own_app (bs := [⟨lo, lv⟩]) (x := ⟨ho, hi⟩) hown3)
        have hx3 := HX.out.below hb3 hbl
        clear e0 e1 e2 e3 e4 e5 e6 e7 e8 e9
        obtain ⟨⟨e0, e1, e2, e3, e4, e5, e6, e7, e8, e9⟩, _⟩ := hx3
        simp only at e0 e1 e2 e3 e4 e5 e6 e7 e8 e9
        have hs3 := hb3.size
        clear hg3 hown3
        go_wp2_with fail
        refine region_still_tail 10 (by kernel_rfl) (by kernel_rfl) ?_
        simp only [List.take_succ_cons, List.take_zero, List.drop_succ_cons, List.drop_zero]
        repeat still_step
        refine wpStill_nil ?_
        go_wp2_with fail
        have hw3 := (hw.trans (hb3.mono (Nat.le_of_lt hbl))).drew
        refine (HCm.out _ (HE.out.below hw3)).mono ?_
        rintro e w5 ⟨rfl, hb5⟩
        have hw5 := below_then hw3 hb5
        have hb35 := hb3.drew.trans (hb5.mono hs3)
        have HO5 := Lib.hid (owns_below (owns_below HO3.out ((Below.refl _ _).drew)) hb5)
        have hx5 := HX.out.below hb35 hbl
        clear e0 e1 e2 e3 e4 e5 e6 e7 e8 e9
        obtain ⟨⟨e0, e1, e2, e3, e4, e5, e6, e7, e8, e9⟩, _⟩ := hx5
        simp only at e0 e1 e2 e3 e4 e5 e6 e7 e8 e9
        go_wp2_with fail
        refine (nothing_any _).mono ?_
        rintro e w6 ⟨rfl, hb6⟩
        go_wp2_with fail
        go_ret
        exact near_fin w _ _ _ HF.out (below_then hw5 hb6) _ _ _ _ rfl rfl (by simp) (by simp [maxLen])
    · have q4 : (lo == 4) = false := by simpa using h4
      have HF : Hid (N = [Bnd.nothing]) := by show _ = _; rw [HN2.out, if_neg (fun h => h4 h.2.1), if_pos (by omega)]
      clear hz h4
      go_enter Tryz.func22, Tryz.ntmps22
      go_wp2_with fail
      refine (HEach.out _ ((Below.refl _ _).alloc (Nat.le_refl _) _) (by refine ⟨⟨?_, ?_, ?_, ?_, ?_, ?_, ?_, ?_, ?_, ?_⟩, ?_, ?_, ?_, ?_, ?_, ?_, ?_, ?_, ?_, ?_⟩ <;> (go_simp; try rfl))).mono ?_
      rintro e w1 ⟨rfl, hx, hw⟩
      have HX := Lib.hid hx
      obtain ⟨⟨e0, e1, e2, e3, e4, e5, e6, e7, e8, e9⟩, g0, g1, g2, g3, g4, g5, g6, g7, g8, g9⟩ := hx
      simp only at e0 e1 e2 e3 e4 e5 e6 e7 e8 e9
      have hbl := cell_lt e0
      clear g0 g1 g2 g3 g4 g5 g6 g7 g8 g9
      obtain ⟨i0', hi1, hz0, hz1, hz2⟩ := HI.out
      go_wp2_with (at_builtin; go_must (refine wpList_append_own _ rfl _ _ 23 rfl w1.heap.size 54 i0' (.agg #[.int .i64 0, .int .i64 0, .int .i64 0, .int .i64 0, .string ⟨#[]⟩]) 5 48 Tryz.underlying23 hi1 hz0 hz1 hz2 rfl (by decide) _ _ _ rfl ((World.ownsRow_nil w1 w1.heap.size 54 5).alloc _) ⟨_, 0, none⟩ 1 1 [.int .i64 lo, .int .i64 lv.a, .int .i64 lv.b, .int .i64 lv.c, .string lv.p] rfl rfl ?c1 ?c2 ?c3 ?c4 ?c5 ?_))
      case c1 => exact cells5_at _ _ (by simp) _ _ _ _ _ _
      case c2 => intro u hu; simp at hu; rcases hu with rfl | rfl | rfl | rfl | rfl <;> rfl
      case c3 => unfold maxLen; omega
      case c4 => omega
      case c5 => simp; try omega
      intro v2 w2 hown2 hg2 _
      have hb2 := below_grown ((Below.refl w1.heap.size w1).alloc (Nat.le_refl _) _) ((World.ownsRow_nil w1 w1.heap.size 54 5).alloc _) hg2 (by simp)
      obtain ⟨g2, cap2, hv2⟩ := Joins.ownsRow_form hown2 (by omega)
      subst hv2
      have HO2 := Lib.hid (own_app (bs := []) (x := ⟨lo, lv⟩) hown2)
      have hx2 := HX.out.below hb2 hbl
      clear e0 e1 e2 e3 e4 e5 e6 e7 e8 e9
      obtain ⟨⟨e0, e1, e2, e3, e4, e5, e6, e7, e8, e9⟩, _⟩ := hx2
      simp only at e0 e1 e2 e3 e4 e5 e6 e7 e8 e9
      have hs2 := hb2.size
      clear hg2 hown2
      obtain ⟨i0', hi1, hz0, hz1, hz2⟩ := HI.out
      go_wp2_with (at_builtin; go_must (refine wpList_append_own _ rfl _ _ 23 rfl w1.heap.size 54 i0' (.agg #[.int .i64 0, .int .i64 0, .int .i64 0, .int .i64 0, .string ⟨#[]⟩]) 5 48 Tryz.underlying23 hi1 hz0 hz1 hz2 rfl (by decide) _ _ _ rfl (HO2.out.alloc _) ⟨_, 0, none⟩ 1 1 [.int .i64 ho, .int .i64 hi.a, .int .i64 hi.b, .int .i64 hi.c, .string hi.p] rfl rfl ?c1 ?c2 ?c3 ?c4 ?c5 ?_))
      case c1 => exact cells5_at _ _ (by simp) _ _ _ _ _ _
      case c2 => intro u hu; simp at hu; rcases hu with rfl | rfl | rfl | rfl | rfl <;> rfl
      case c3 => unfold maxLen; omega
      case c4 => omega
      case c5 => simp; try omega
      intro v3 w3 hown3 hg3 _
      have hb3 := below_grown (hb2.alloc hs2 _) (HO2.out.alloc _) hg3 (by simp; omega)
      obtain ⟨g3, cap3, hv3⟩ := Joins.ownsRow_form hown3 (by omega)
      subst hv3
      have HO3 := Lib.hid (own_app (bs := [⟨lo, lv⟩]) (x := ⟨ho, hi⟩) hown3)
      have hx3 := HX.out.below hb3 hbl
      clear e0 e1 e2 e3 e4 e5 e6 e7 e8 e9
      obtain ⟨⟨e0, e1, e2, e3, e4, e5, e6, e7, e8, e9⟩, _⟩ := hx3
      simp only at e0 e1 e2 e3 e4 e5 e6 e7 e8 e9
      have hs3 := hb3.size
      clear hg3 hown3
      go_wp2_with fail
      refine region_still_tail 10 (by kernel_rfl) (by kernel_rfl) ?_
      simp only [List.take_succ_cons, List.take_zero, List.drop_succ_cons, List.drop_zero]
      repeat still_step
      refine wpStill_nil ?_
      go_wp2_with fail
      have hw3 := (hw.trans (hb3.mono (Nat.le_of_lt hbl))).drew
      refine (HCm.out _ (HE.out.below hw3)).mono ?_
      rintro e w5 ⟨rfl, hb5⟩
      have hw5 := below_then hw3 hb5
      have hb35 := hb3.drew.trans (hb5.mono hs3)
      have HO5 := Lib.hid (owns_below (owns_below HO3.out ((Below.refl _ _).drew)) hb5)
      have hx5 := HX.out.below hb35 hbl
      clear e0 e1 e2 e3 e4 e5 e6 e7 e8 e9
      obtain ⟨⟨e0, e1, e2, e3, e4, e5, e6, e7, e8, e9⟩, _⟩ := hx5
      simp only at e0 e1 e2 e3 e4 e5 e6 e7 e8 e9
      go_wp2_with fail
      refine (nothing_any _).mono ?_
      rintro e w6 ⟨rfl, hb6⟩
      go_wp2_with fail
      go_ret
      exact near_fin w _ _ _ HF.out (below_then hw5 hb6) _ _ _ _ rfl rfl (by simp) (by simp [maxLen])
  · have qz : (c == 0) = false := by simpa using hz
    by_cases hg : 0 ≤ c
    · have qg : decide (0 ≤ c) = true := decide_eq_true hg
      have HF : Hid (N = [Bnd.nothing]) := by show _ = _; rw [HN2.out, if_neg (fun h => hz h.1), if_pos hg]
      clear hz hg
      go_enter Tryz.func22, Tryz.ntmps22
      go_wp2_with fail
      refine (HEach.out _ ((Below.refl _ _).alloc (Nat.le_refl _) _) (by refine ⟨⟨?_, ?_, ?_, ?_, ?_, ?_, ?_, ?_, ?_, ?_⟩, ?_, ?_, ?_, ?_, ?_, ?_, ?_, ?_, ?_, ?_⟩ <;> (go_simp; try rfl))).mono ?_
      rintro e w1 ⟨rfl, hx, hw⟩
      have HX := Lib.hid hx
      obtain ⟨⟨e0, e1, e2, e3, e4, e5, e6, e7, e8, e9⟩, g0, g1, g2, g3, g4, g5, g6, g7, g8, g9⟩ := hx
      simp only at e0 e1 e2 e3 e4 e5 e6 e7 e8 e9
      have hbl := cell_lt e0
      clear g0 g1 g2 g3 g4 g5 g6 g7 g8 g9
      obtain ⟨i0', hi1, hz0, hz1, hz2⟩ := HI.out
      go_wp2_with (at_builtin; go_must (refine wpList_append_own _ rfl _ _ 23 rfl w1.heap.size 54 i0' (.agg #[.int .i64 0, .int .i64 0, .int .i64 0, .int .i64 0, .string ⟨#[]⟩]) 5 48 Tryz.underlying23 hi1 hz0 hz1 hz2 rfl (by decide) _ _ _ rfl ((World.ownsRow_nil w1 w1.heap.size 54 5).alloc _) ⟨_, 0, none⟩ 1 1 [.int .i64 lo, .int .i64 lv.a, .int .i64 lv.b, .int .i64 lv.c, .string lv.p] rfl rfl ?c1 ?c2 ?c3 ?c4 ?c5 ?_))
      case c1 => exact cells5_at _ _ (by simp) _ _ _ _ _ _
      case c2 => intro u hu; simp at hu; rcases hu with rfl | rfl | rfl | rfl | rfl <;> rfl
      case c3 => unfold maxLen; omega
      case c4 => omega
      case c5 => simp; try omega
      intro v2 w2 hown2 hg2 _
      have hb2 := below_grown ((Below.refl w1.heap.size w1).alloc (Nat.le_refl _) _) ((World.ownsRow_nil w1 w1.heap.size 54 5).alloc _) hg2 (by simp)
      obtain ⟨g2, cap2, hv2⟩ := Joins.ownsRow_form hown2 (by omega)
      subst hv2
      have HO2 := Lib.hid (own_app (bs := []) (x := ⟨lo, lv⟩) hown2)
      have hx2 := HX.out.below hb2 hbl
      clear e0 e1 e2 e3 e4 e5 e6 e7 e8 e9
      obtain ⟨⟨e0, e1, e2, e3, e4, e5, e6, e7, e8, e9⟩, _⟩ := hx2
      simp only at e0 e1 e2 e3 e4 e5 e6 e7 e8 e9
      have hs2 := hb2.size
      clear hg2 hown2
      obtain ⟨i0', hi1, hz0, hz1, hz2⟩ := HI.out
      go_wp2_with (at_builtin; go_must (refine wpList_append_own _ rfl _ _ 23 rfl w1.heap.size 54 i0' (.agg #[.int .i64 0, .int .i64 0, .int .i64 0, .int .i64 0, .string ⟨#[]⟩]) 5 48 Tryz.underlying23 hi1 hz0 hz1 hz2 rfl (by decide) _ _ _ rfl (HO2.out.alloc _) ⟨_, 0, none⟩ 1 1 [.int .i64 ho, .int .i64 hi.a, .int .i64 hi.b, .int .i64 hi.c, .string hi.p] rfl rfl ?c1 ?c2 ?c3 ?c4 ?c5 ?_))
      case c1 => exact cells5_at _ _ (by simp) _ _ _ _ _ _
      case c2 => intro u hu; simp at hu; rcases hu with rfl | rfl | rfl | rfl | rfl <;> rfl
      case c3 => unfold maxLen; omega
      case c4 => omega
      case c5 => simp; try omega
      intro v3 w3 hown3 hg3 _
      have hb3 := below_grown (hb2.alloc hs2 _) (HO2.out.alloc _) hg3 (by simp; omega)
      obtain ⟨g3, cap3, hv3⟩ := Joins.ownsRow_form hown3 (by omega)
      subst hv3
      have HO3 := Lib.hid (own_app (bs := [⟨lo, lv⟩]) (x := ⟨ho, hi⟩) hown3)
      have hx3 := HX.out.below hb3 hbl
      clear e0 e1 e2 e3 e4 e5 e6 e7 e8 e9
      obtain ⟨⟨e0, e1, e2, e3, e4, e5, e6, e7, e8, e9⟩, _⟩ := hx3
      simp only at e0 e1 e2 e3 e4 e5 e6 e7 e8 e9
      have hs3 := hb3.size
      clear hg3 hown3
      go_wp2_with fail
      refine region_still_tail 10 (by kernel_rfl) (by kernel_rfl) ?_
      simp only [List.take_succ_cons, List.take_zero, List.drop_succ_cons, List.drop_zero]
      repeat still_step
      refine wpStill_nil ?_
      go_wp2_with fail
      have hw3 := (hw.trans (hb3.mono (Nat.le_of_lt hbl))).drew
      refine (HCm.out _ (HE.out.below hw3)).mono ?_
      rintro e w5 ⟨rfl, hb5⟩
      have hw5 := below_then hw3 hb5
      have hb35 := hb3.drew.trans (hb5.mono hs3)
      have HO5 := Lib.hid (owns_below (owns_below HO3.out ((Below.refl _ _).drew)) hb5)
      have hx5 := HX.out.below hb35 hbl
      clear e0 e1 e2 e3 e4 e5 e6 e7 e8 e9
      obtain ⟨⟨e0, e1, e2, e3, e4, e5, e6, e7, e8, e9⟩, _⟩ := hx5
      simp only at e0 e1 e2 e3 e4 e5 e6 e7 e8 e9
      go_wp2_with fail
      refine (nothing_any _).mono ?_
      rintro e w6 ⟨rfl, hb6⟩
      go_wp2_with fail
      go_ret
      exact near_fin w _ _ _ HF.out (below_then hw5 hb6) _ _ _ _ rfl rfl (by simp) (by simp [maxLen])
    · have qg : decide (0 ≤ c) = false := decide_eq_false hg
      have HF : Hid (N = [⟨lo, lv⟩, ⟨ho, hi⟩]) := by show _ = _; rw [HN2.out, if_neg (fun h => hz h.1), if_neg hg]
      clear hz hg
      go_enter Tryz.func22, Tryz.ntmps22
      go_wp2_with fail
      refine (HEach.out _ ((Below.refl _ _).alloc (Nat.le_refl _) _) (by refine ⟨⟨?_, ?_, ?_, ?_, ?_, ?_, ?_, ?_, ?_, ?_⟩, ?_, ?_, ?_, ?_, ?_, ?_, ?_, ?_, ?_, ?_⟩ <;> (go_simp; try rfl))).mono ?_
      rintro e w1 ⟨rfl, hx, hw⟩
      have HX := Lib.hid hx
      obtain ⟨⟨e0, e1, e2, e3, e4, e5, e6, e7, e8, e9⟩, g0, g1, g2, g3, g4, g5, g6, g7, g8, g9⟩ := hx
      simp only at e0 e1 e2 e3 e4 e5 e6 e7 e8 e9
      have hbl := cell_lt e0
      clear g0 g1 g2 g3 g4 g5 g6 g7 g8 g9
      obtain ⟨i0', hi1, hz0, hz1, hz2⟩ := HI.out
      go_wp2_with (at_builtin; go_must (refine wpList_append_own _ rfl _ _ 23 rfl w1.heap.size 54 i0' (.agg #[.int .i64 0, .int .i64 0, .int .i64 0, .int .i64 0, .string ⟨#[]⟩]) 5 48 Tryz.underlying23 hi1 hz0 hz1 hz2 rfl (by decide) _ _ _ rfl ((World.ownsRow_nil w1 w1.heap.size 54 5).alloc _) ⟨_, 0, none⟩ 1 1 [.int .i64 lo, .int .i64 lv.a, .int .i64 lv.b, .int .i64 lv.c, .string lv.p] rfl rfl ?c1 ?c2 ?c3 ?c4 ?c5 ?_))
      case c1 => exact cells5_at _ _ (by simp) _ _ _ _ _ _
      case c2 => intro u hu; simp at hu; rcases hu with rfl | rfl | rfl | rfl | rfl <;> rfl
      case c3 => unfold maxLen; omega
      case c4 => omega
      case c5 => simp; try omega
      intro v2 w2 hown2 hg2 _
      have hb2 := below_grown ((Below.refl w1.heap.size w1).alloc (Nat.le_refl _) _) ((World.ownsRow_nil w1 w1.heap.size 54 5).alloc _) hg2 (by simp)
      obtain ⟨g2, cap2, hv2⟩ := Joins.ownsRow_form hown2 (by omega)
      subst hv2
      have HO2 := Lib.hid (own_app (bs := []) (x := ⟨lo, lv⟩) hown2)
      have hx2 := HX.out.below hb2 hbl
      clear e0 e1 e2 e3 e4 e5 e6 e7 e8 e9
      obtain ⟨⟨e0, e1, e2, e3, e4, e5, e6, e7, e8, e9⟩, _⟩ := hx2
      simp only at e0 e1 e2 e3 e4 e5 e6 e7 e8 e9
      have hs2 := hb2.size
      clear hg2 hown2
      obtain ⟨i0', hi1, hz0, hz1, hz2⟩ := HI.out
      go_wp2_with (at_builtin; go_must (refine wpList_append_own _ rfl _ _ 23 rfl w1.heap.size 54 i0' (.agg #[.int .i64 0, .int .i64 0, .int .i64 0, .int .i64 0, .string ⟨#[]⟩]) 5 48 Tryz.underlying23 hi1 hz0 hz1 hz2 rfl (by decide) _ _ _ rfl (HO2.out.alloc _) ⟨_, 0, none⟩ 1 1 [.int .i64 ho, .int .i64 hi.a, .int .i64 hi.b, .int .i64 hi.c, .string hi.p] rfl rfl ?c1 ?c2 ?c3 ?c4 ?c5 ?_))
      case c1 => exact cells5_at _ _ (by simp) _ _ _ _ _ _
      case c2 => intro u hu; simp at hu; rcases hu with rfl | rfl | rfl | rfl | rfl <;> rfl
      case c3 => unfold maxLen; omega
      case c4 => omega
      case c5 => simp; try omega
      intro v3 w3 hown3 hg3 _
      have hb3 := below_grown (hb2.alloc hs2 _) (HO2.out.alloc _) hg3 (by simp; omega)
      obtain ⟨g3, cap3, hv3⟩ := Joins.ownsRow_form hown3 (by omega)
      subst hv3
      have HO3 := Lib.hid (own_app (bs := [⟨lo, lv⟩]) (x := ⟨ho, hi⟩) hown3)
      have hx3 := HX.out.below hb3 hbl
      clear e0 e1 e2 e3 e4 e5 e6 e7 e8 e9
      obtain ⟨⟨e0, e1, e2, e3, e4, e5, e6, e7, e8, e9⟩, _⟩ := hx3
      simp only at e0 e1 e2 e3 e4 e5 e6 e7 e8 e9
      have hs3 := hb3.size
      clear hg3 hown3
      go_wp2_with fail
      refine region_still_tail 10 (by kernel_rfl) (by kernel_rfl) ?_
      simp only [List.take_succ_cons, List.take_zero, List.drop_succ_cons, List.drop_zero]
      repeat still_step
      refine wpStill_nil ?_
      go_wp2_with fail
      have hw3 := (hw.trans (hb3.mono (Nat.le_of_lt hbl))).drew
      refine (HCm.out _ (HE.out.below hw3)).mono ?_
      rintro e w5 ⟨rfl, hb5⟩
      have hw5 := below_then hw3 hb5
      have hb35 := hb3.drew.trans (hb5.mono hs3)
      have HO5 := Lib.hid (owns_below (owns_below HO3.out ((Below.refl _ _).drew)) hb5)
      have hx5 := HX.out.below hb35 hbl
      clear e0 e1 e2 e3 e4 e5 e6 e7 e8 e9
      obtain ⟨⟨e0, e1, e2, e3, e4, e5, e6, e7, e8, e9⟩, _⟩ := hx5
      simp only at e0 e1 e2 e3 e4 e5 e6 e7 e8 e9
      go_wp2_with fail
      go_ret
      exact ⟨_, rfl, by rw [HF.out]; exact Bnds.of_owns HO5.out, ⟨_, _, by rw [HF.out]; rfl⟩, hw5⟩
end Go.Proofs.YthojbknakmjndaaGreatDoor
