/- The law SemverHighs: a walk. -/
import Derived.Test.YtkjifpfaekljaaaDoorSemRef11
namespace Go.Proofs.YtkjifpfaekljaaaDoor
open Go.RowKit
theorem highest_as (v : Value) (vs : List V4) (best : V4) (d : Bool) (h1 : bestOf V4.cmp V4.zero vs = best) (h2 : decide (0 < vs.length) = d) (w : World) (hv : Vers w v vs) (hlen : ∃ a cap, v = .slice a vs.length cap) (hE : Env w) (hp : ∀ x ∈ vs, x.p.size ≤ 300) (hn : vs.length ≤ 1000) :
    Calls Tryd.prog 21 #[v] w fun e w' => e = .returned (.tuple #[.agg #[.int .i64 best.a, .int .i64 best.b, .int .i64 best.c, .string best.p], .bool d]) ∧ Below w.heap.size w w' := by
  subst h1 h2; exact highest_any v vs w hv hlen hE hp hn
theorem refHighest_as (v : Value) (vs : List V4) (best : V4) (d : Bool) (h1 : bestOf V4.cmp V4.zero vs = best) (h2 : decide (0 < vs.length) = d) (w : World) (hv : Vers w v vs) (hlen : ∃ a cap, v = .slice a vs.length cap) (hp : ∀ x ∈ vs, x.p.size ≤ 300) (hn : vs.length ≤ 1000) :
    Calls Tryd.prog 22 #[v] w fun e w' => e = .returned (.tuple #[.agg #[.int .i64 best.a, .int .i64 best.b, .int .i64 best.c, .string best.p], .bool d]) ∧ Below w.heap.size w w' := by
  subst h1 h2; exact refHighest_any v vs w hv hlen hp hn
theorem light_as (v : Value) (vs : List V4) (r : Bool) (h : vs.all isLight = r) (w : World) (hv : Vers w v vs) (hlen : ∃ a cap, v = .slice a vs.length cap) (hp : ∀ x ∈ vs, x.p.size ≤ 9223372036854775807) :
    Calls Tryd.prog 13 #[v] w fun e w' => e = .returned (.bool r) ∧ w = w' := by
  subst h; exact light_any v vs w hv hlen hp
set_option maxRecDepth 100000 in
set_option maxHeartbeats 2000000 in
theorem semverHighs_walk (v : Value) (vs : List V4) (w : World) (hv : Vers w v vs) (hlen : ∃ a cap, v = .slice a vs.length cap) (hE : Env w) (hp : ∀ x ∈ vs, x.p.size ≤ 9223372036854775807) :
    Calls Tryd.prog 8 #[v] w fun e w' => e = .returned (.bool true) ∧ Below w.heap.size w w' := by
  have hm := hv.cases.1
  unfold maxLen at hm
  have HE := Lib.hid hE
  have HP := Lib.hid hp
  have HV := Lib.hid hv
  obtain ⟨a, cap, rfl⟩ := hlen
  clear hE hp hv
  by_cases h50 : 50 < vs.length
  · have q : decide ((50 : Int) < (vs.length : Int)) = true := by simp; omega
    clear h50
    go_enter Tryd.func8, Tryd.ntmps8
    go_wp2_with fail
    refine (awake_any _ HE.out).mono ?_
    rintro e w1 ⟨rfl, hb1⟩
    go_wp2_with fail
    go_ret
    exact ⟨rfl, hb1⟩
  have q : decide ((50 : Int) < (vs.length : Int)) = false := by simp; omega
  cases hl : vs.all isLight
  · have HL := Lib.hid hl
    clear h50 hl
    go_enter Tryd.func8, Tryd.ntmps8
    go_wp2_with fail
    refine (light_as _ vs false HL.out _ HV.out ⟨_, _, rfl⟩ HP.out).mono ?_
    rintro e w1 ⟨rfl, rfl⟩
    go_wp2_with fail
    refine (awake_any _ HE.out).mono ?_
    rintro e w1 ⟨rfl, hb1⟩
    go_wp2_with fail
    go_ret
    exact ⟨rfl, hb1⟩
  · have HL := Lib.hid hl
    have HP3 : Hid (∀ x ∈ vs, x.p.size ≤ 300) := fun x hx => by
      have := List.all_eq_true.1 hl x hx
      simpa [isLight] using this
    have hn : vs.length ≤ 1000 := by omega
    obtain ⟨best, hbest⟩ : ∃ best, bestOf V4.cmp V4.zero vs = best := ⟨_, rfl⟩
    obtain ⟨d, hd⟩ : ∃ d, decide (0 < vs.length) = d := ⟨_, rfl⟩
    have HB := Lib.hid hbest
    have HD := Lib.hid hd
    have hq : ∀ W, (Op.equalIn 10000 23 (.agg #[.int .i64 best.a, .int .i64 best.b, .int .i64 best.c, .string best.p]) (.agg #[.int .i64 best.a, .int .i64 best.b, .int .i64 best.c, .string best.p])).run Tryd.prog W = .ok true W := fun W => ver_eq _ _ _ _ _ _ _ _ true (by simp) W
    clear h50 hl hbest hd
    go_enter Tryd.func8, Tryd.ntmps8
    go_wp2_with fail
    refine (light_as _ vs true HL.out _ HV.out ⟨_, _, rfl⟩ HP.out).mono ?_
    rintro e w1 ⟨rfl, rfl⟩
    go_wp2_with fail
    refine (highest_as _ vs best d HB.out HD.out _ HV.out ⟨_, _, rfl⟩ HE.out HP3.out hn).mono ?_
    rintro e w1 ⟨rfl, hb1⟩
    have ha := hb1.alloc hb1.size (.cells #[.int .i64 best.a, .int .i64 best.b, .int .i64 best.c, .string best.p] 23)
    go_wp2_with fail
    refine (refHighest_as _ vs best d HB.out HD.out _ (HV.out.below ha (Nat.le_refl _)) ⟨_, _, rfl⟩ HP3.out hn).mono ?_
    rintro e w2 ⟨rfl, hb2⟩
    have hx := box_of hb2
    have v0 := box_cells hx 0
    have v1 := box_cells hx 1
    have v2 := box_cells hx 2
    have v3 := box_cells hx 3
    simp at v0 v1 v2 v3
    have hz := cell_lt v0
    have hW2 := below_then hb1 (below_first hx)
    have hW3 := hW2.alloc hW2.size (.cells #[.int .i64 best.a, .int .i64 best.b, .int .i64 best.c, .string best.p] 23)
    clear hb2 ha
    go_wp2_with fail
    refine (awake_any _ (HE.out.below hW3)).mono ?_
    rintro e w3 ⟨rfl, hb3⟩
    go_wp2_with fail
    go_ret
    exact ⟨rfl, below_then hW3 hb3⟩
end Go.Proofs.YtkjifpfaekljaaaDoor
