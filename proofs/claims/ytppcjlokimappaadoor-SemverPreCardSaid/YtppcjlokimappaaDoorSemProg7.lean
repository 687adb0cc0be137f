/- The program's versions: Highest: a walk. -/
import Derived.Test.YtppcjlokimappaaDoorSemCore
import Derived.Test.YtppcjlokimappaaDoorSemMath
import Derived.Test.YtppcjlokimappaaDoorCells
namespace Go.Proofs.YtppcjlokimappaaDoor
open Go.RowKit
def V4.at (w : World) (b o : Nat) (v : V4) : Prop := w.cell? ⟨b, o, none⟩ = some (.int .i64 v.a) ∧ w.cell? ⟨b, o + 1, none⟩ = some (.int .i64 v.b) ∧ w.cell? ⟨b, o + 2, none⟩ = some (.int .i64 v.c) ∧ w.cell? ⟨b, o + 3, none⟩ = some (.string v.p)
def HiRel (vs : List V4) (w : World) (i : Value) (wr : World) : Prop :=
  ∃ (k : Nat) (best : V4), k ≤ vs.length ∧ i = .int .i64 (k : Int) ∧ best = bestOf V4.cmp V4.zero (vs.take k) ∧ V4.at wr (w.heap.size + 1) 0 best ∧ (∀ j, j < 4 → wr.frozen? ⟨w.heap.size + 1, j, none⟩ = false) ∧
    Below (w.heap.size + 1) (w.alloc (.cells #[.int .i64 0, .int .i64 0, .int .i64 0, .string ⟨#[]⟩] 23)) wr
theorem cmpP_as (x y : V4) (r : Int) (h : V4.cmp x y = r) (w : World) (hE : Env w) (hp : x.p.size ≤ 300) (hp' : y.p.size ≤ 300) :
    Calls Tryd.prog 7 #[.agg #[.int .i64 x.a, .int .i64 x.b, .int .i64 x.c, .string x.p], .agg #[.int .i64 y.a, .int .i64 y.b, .int .i64 y.c, .string y.p]] w fun e w' => e = .returned (.int .i64 r) ∧ Below w.heap.size w w' := by
  subst h; exact cmpP_any _ _ _ _ _ _ _ _ w hE hp hp'
set_option maxRecDepth 100000 in
set_option maxHeartbeats 2000000 in
theorem highest_any (v : Value) (vs : List V4) (w : World) (hv : Vers w v vs) (hlen : ∃ a cap, v = .slice a vs.length cap) (hE : Env w) (hp : ∀ x ∈ vs, x.p.size ≤ 300) (hn : vs.length ≤ 1000) :
    Calls Tryd.prog 8 #[v] w fun e w' => e = .returned (.tuple #[(bestOf V4.cmp V4.zero vs).val, .bool (decide (0 < vs.length))]) ∧ Below w.heap.size w w' := by
  have HP := Lib.hid hp
  have HE := Lib.hid hE
  clear hp hE
  obtain ⟨a0, cap0, rfl⟩ := hlen
  rcases hv.cases.2 with ⟨a, cap, hva, rfl⟩ | ⟨bx, ox, cap, hva, hn0, hbx, hc⟩
  · have hx := (Below.refl (w.heap.size + 1) (w.alloc (.cells #[.int .i64 0, .int .i64 0, .int .i64 0, .string ⟨#[]⟩] 23))).alloc (by simp) (.cells #[.int .i64 0, .int .i64 0, .int .i64 0, .string ⟨#[]⟩] 23)
    have hW := below_first hx
    clear hv hva
    go_enter Tryd.func8, Tryd.ntmps8
    go_wp2_with fail
    go_loop [9] (fun i => i = .int .i64 0) (fun _ => 0)
    case atStart => rfl
    case round =>
      subst hrel
      go_wp2_with fail
      exact bodyPost_ret (v := .tuple #[.agg #[.int .i64 0, .int .i64 0, .int .i64 0, .string ⟨#[]⟩], .bool false]) (by simp [results, Tryd.results8, go_sem]) rfl ⟨rfl, hW⟩
  have ha0 : a0 = some ⟨bx, ox, none⟩ := by injection hva
  have hcap : cap0 = cap := by injection hva
  subst ha0 hcap
  have HC := Lib.hid hc
  clear hc hv hva
  go_enter Tryd.func8, Tryd.ntmps8
  go_wp2_with fail
  go_loopw [5, 6, 9] (fun _ _ i wr => HiRel vs w i wr) (fun _ _ i _ => vs.length - (intOf i).toNat)
  case atStart =>
    refine ⟨0, V4.zero, Nat.zero_le _, rfl, rfl, ⟨?_, ?_, ?_, ?_⟩, ?_, (Below.refl _ _).alloc (by simp) _⟩
    · go_simp; rfl
    · go_simp; rfl
    · go_simp; rfl
    · go_simp; rfl
    · intro j hj
      rcases (show j = 0 ∨ j = 1 ∨ j = 2 ∨ j = 3 by omega) with rfl | rfl | rfl | rfl <;> go_simp
  case round =>
    obtain ⟨k, best, hk, rfl, hb, ⟨b0, b1, b2, b3⟩, hf, hx⟩ := hrel
    have HB := Lib.hid hb
    have HF := Lib.hid hf
    simp only [Nat.zero_add] at b1 b2 b3
    have hW := below_first hx
    have hz1 := cell_lt b0
    clear hb hf
    by_cases hlt : k < vs.length
    · have i0 : (0 : Int) ≤ (k : Int) := by omega
      have i1 : (k : Int) < (vs.length : Int) := by omega
      obtain ⟨g0, g1, g2, g3⟩ := HC.out k hlt
      have c0 := (hW.cell (p := ⟨bx, ox + k * 4, none⟩) hbx).trans g0
      have c1 := (hW.cell (p := ⟨bx, ox + k * 4 + 1, none⟩) hbx).trans g1
      have c2 := (hW.cell (p := ⟨bx, ox + k * 4 + 2, none⟩) hbx).trans g2
      have c3 := (hW.cell (p := ⟨bx, ox + k * 4 + 3, none⟩) hbx).trans g3
      have hpx := HP.out _ (List.getElem_mem hlt)
      obtain ⟨x, hxe⟩ : ∃ x, vs[k] = x := ⟨_, rfl⟩
      rw [hxe] at c0 c1 c2 c3 hpx
      have HT := Lib.hid (List.take_succ_eq_append_getElem hlt)
      have HX := Lib.hid hxe
      clear g0 g1 g2 g3 hxe
      by_cases hk0 : k = 0
      · subst hk0
        simp only [Nat.zero_mul, Nat.add_zero] at c0 c1 c2 c3
        have HN : Hid (bestOf V4.cmp V4.zero (vs.take (0 + 1)) = x) := by
          show _ = _
          rw [HT.out, HX.out]; rfl
        have f0 := HF.out 0 (by omega)
        have f1 := HF.out 1 (by omega)
        have f2 := HF.out 2 (by omega)
        have f3 := HF.out 3 (by omega)
        go_wp2_with fail
        go_roundw
        case rel =>
          refine ⟨1, x, hlt, rfl, HN.out.symm, ⟨?_, ?_, ?_, ?_⟩, ?_, ?_⟩
          · go_simp
          · go_simp
          · go_simp
          · go_simp
          · intro j hj
            rcases (show j = 0 ∨ j = 1 ∨ j = 2 ∨ j = 3 by omega) with rfl | rfl | rfl | rfl <;> go_simp
          · exact (((((hx).setCell (p := ⟨w.heap.size + 1, 0, none⟩) (Nat.le_refl _) _).setCell (p := ⟨w.heap.size + 1, 1, none⟩) (Nat.le_refl _) _).setCell (p := ⟨w.heap.size + 1, 2, none⟩) (Nat.le_refl _) _).setCell (p := ⟨w.heap.size + 1, 3, none⟩) (Nat.le_refl _) _).alloc (by simp; omega) _
        case measure => simp [intOf]; omega
      · have htk : vs.take k ≠ [] := by
          intro e; have := congrArg List.length e; rw [List.length_take, List.length_nil] at this; omega
        have HN : Hid (bestOf V4.cmp V4.zero (vs.take (k + 1)) = bestStep V4.cmp best x) := by
          show _ = _
          rw [HT.out, HX.out, bestOf_snoc _ _ _ _ htk, HB.out]
        have hbp : best.p.size ≤ 300 := by
          obtain ⟨i, hi, h1, _⟩ := best_first good_v4 V4.zero (vs.take k) htk
          rw [HB.out, ← h1]
          exact HP.out _ (List.mem_of_mem_take (List.getElem_mem hi))
        obtain ⟨r, hr⟩ : ∃ r, V4.cmp x best = r := ⟨_, rfl⟩
        have HR := Lib.hid hr
        have q0 : ((k : Int) == 0) = false := by simpa using hk0
        have q1 : decide (k = 0) = false := by simpa using hk0
        have f0 := HF.out 0 (by omega)
        have f1 := HF.out 1 (by omega)
        have f2 := HF.out 2 (by omega)
        have f3 := HF.out 3 (by omega)
        clear hr hk0 htk
        go_wp2_with fail
        refine (cmpP_as x best r HR.out _ ((HE.out.below hW).alloc _) hpx hbp).mono ?_
        rintro e w4 ⟨rfl, hb4⟩
        have hx4 := box_of hb4
        have hW4 := below_first hx4
        have d0 := (hW4.cell (p := ⟨w.heap.size + 1, 0, none⟩) hz1).trans b0
        have d1 := (hW4.cell (p := ⟨w.heap.size + 1, 1, none⟩) hz1).trans b1
        have d2 := (hW4.cell (p := ⟨w.heap.size + 1, 2, none⟩) hz1).trans b2
        have d3 := (hW4.cell (p := ⟨w.heap.size + 1, 3, none⟩) hz1).trans b3
        have f0 := (hW4.frozen (p := ⟨w.heap.size + 1, 0, none⟩) hz1).trans f0
        have f1 := (hW4.frozen (p := ⟨w.heap.size + 1, 1, none⟩) hz1).trans f1
        have f2 := (hW4.frozen (p := ⟨w.heap.size + 1, 2, none⟩) hz1).trans f2
        have f3 := (hW4.frozen (p := ⟨w.heap.size + 1, 3, none⟩) hz1).trans f3
        have v0 := box_cells hx4 0
        have v1 := box_cells hx4 1
        have v2 := box_cells hx4 2
        have v3 := box_cells hx4 3
        simp at v0 v1 v2 v3
        have hxx := box_then hx hW4
        clear hb4 hx4
        by_cases hz : 0 < r
        · have q2 : decide (0 < r) = true := by simpa using hz
          have HS : Hid (bestStep V4.cmp best x = x) := by show _ = _; unfold bestStep; rw [if_pos (by rw [HR.out]; exact hz)]
          clear hz
          go_wp2_with fail
          go_roundw
          case rel =>
            refine ⟨k + 1, x, hlt, by go_num, by rw [HN.out, HS.out], ⟨?_, ?_, ?_, ?_⟩, ?_, ?_⟩
            · go_simp
            · go_simp
            · go_simp
            · go_simp
            · intro j hj
              rcases (show j = 0 ∨ j = 1 ∨ j = 2 ∨ j = 3 by omega) with rfl | rfl | rfl | rfl <;> go_simp
            · exact ((((hxx).setCell (p := ⟨w.heap.size + 1, 0, none⟩) (Nat.le_refl _) _).setCell (p := ⟨w.heap.size + 1, 1, none⟩) (Nat.le_refl _) _).setCell (p := ⟨w.heap.size + 1, 2, none⟩) (Nat.le_refl _) _).setCell (p := ⟨w.heap.size + 1, 3, none⟩) (Nat.le_refl _) _
          case measure => simp [intOf]; omega
        · have q2 : decide (0 < r) = false := by simpa using hz
          have HS : Hid (bestStep V4.cmp best x = best) := by show _ = _; unfold bestStep; rw [if_neg (by rw [HR.out]; exact hz)]
          clear hz
          go_wp2_with fail
          go_roundw
          case rel =>
            refine ⟨k + 1, best, hlt, by go_num, by rw [HN.out, HS.out], ⟨d0, d1, d2, d3⟩, ?_, hxx⟩
            intro j hj
            rcases (show j = 0 ∨ j = 1 ∨ j = 2 ∨ j = 3 by omega) with rfl | rfl | rfl | rfl <;> assumption
          case measure => simp [intOf]; omega
    · have q : decide (k < vs.length) = false := by simp; omega
      obtain rfl : k = vs.length := by omega
      have HBest : Hid (bestOf V4.cmp V4.zero vs = best) := by
        show _ = _
        have := HB.out
        rw [List.take_of_length_le (Nat.le_refl _)] at this
        exact this.symm
      have q5 : decide (0 < vs.length) = true := by simpa using hn0
      have HD : Hid (decide (0 < vs.length) = true) := q5
      have c0 := box_cells hx 0
      have c1 := box_cells hx 1
      have c2 := box_cells hx 2
      have c3 := box_cells hx 3
      have f0 := box_free hx 0
      have f1 := box_free hx 1
      have f2 := box_free hx 2
      have f3 := box_free hx 3
      simp at c0 c1 c2 c3
      go_wp2_with fail
      exact bodyPost_ret (v := .tuple #[.agg #[.int .i64 best.a, .int .i64 best.b, .int .i64 best.c, .string best.p], .bool true]) (by simp [results, Tryd.results8, go_sem, c0, c1, c2, c3]) rfl ⟨by rw [HBest.out, HD.out]; rfl, ((((hW.setCell (Nat.le_refl _) _).setCell (Nat.le_refl _) _).setCell (Nat.le_refl _) _).setCell (Nat.le_refl _) _)⟩
theorem highest_as (v : Value) (vs : List V4) (best : V4) (d : Bool) (h1 : bestOf V4.cmp V4.zero vs = best) (h2 : decide (0 < vs.length) = d) (w : World) (hv : Vers w v vs) (hlen : ∃ a cap, v = .slice a vs.length cap) (hE : Env w) (hp : ∀ x ∈ vs, x.p.size ≤ 300) (hn : vs.length ≤ 1000) :
    Calls Tryd.prog 8 #[v] w fun e w' => e = .returned (.tuple #[.agg #[.int .i64 best.a, .int .i64 best.b, .int .i64 best.c, .string best.p], .bool d]) ∧ Below w.heap.size w w' := by
  subst h1 h2; exact highest_any v vs w hv hlen hE hp hn
end Go.Proofs.YtppcjlokimappaaDoor
