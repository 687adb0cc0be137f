/- The probes of the laws of layer 4: a walk. -/
import Derived.Test.YtppcjlokimappaaDoorSemCore
namespace Go.Proofs.YtppcjlokimappaaDoor
open Go.RowKit
theorem parse_lit (l : List UInt8) (a b c : Int) (p : List UInt8) (er : Int) (P : ByteArray) (hP : S p = P) (h : ParseIs l a b c p er) (hl : l.length ≤ 100) (w : World) (hE : Env w) :
    Calls Tryd.prog 11 #[.string (S l)] w fun e w' => e = .returned (.tuple #[.agg #[.int .i64 a, .int .i64 b, .int .i64 c, .string P], .int .i64 er]) ∧ Below w.heap.size w w' := by
  subst hP
  refine (parse_any (S l) w hE (by rw [S_size]; omega)).mono ?_
  rintro e w' ⟨a', b', c', p', er', he, hp, hb⟩
  obtain ⟨rfl, rfl, rfl, rfl, rfl⟩ := ParseIs.uniq hp h
  exact ⟨he, hb⟩
theorem awake_p1 : ParseIs [49, 46, 50, 46, 51, 45, 114, 99, 46, 49] 1 2 3 [114, 99, 46, 49] 0 := by
  refine parse_yes ⟨by decide, ?_⟩
  show showL 1 2 3 [114, 99, 46, 49] = _
  unfold showL showCore
  rw [dig10_lt 1 (by decide), dig10_lt 2 (by decide), dig10_lt 3 (by decide)]
  decide
theorem awake_p2 : ParseIs [48, 49, 46, 50, 46, 51] 0 0 0 [] 40 := parse_noNum (k := 0) (by decide) (by decide)
theorem awake_s : showL 1 2 3 [114, 99, 46, 49] = [49, 46, 50, 46, 51, 45, 114, 99, 46, 49] := by
  unfold showL showCore
  rw [dig10_lt 1 (by decide), dig10_lt 2 (by decide), dig10_lt 3 (by decide)]
  decide
theorem awake_c : cmpV 1 2 3 [114, 99, 46, 49] 1 2 3 [] = -1 := by decide
/-- a call leaves four cells as they were, and what stands below -/
theorem keep4 {P : Program} {f : FuncId} {args : Array Value} {v : Value} (w0 w : World) (B : Nat) (x0 x1 x2 x3 : Value)
    (h : w.cell? ⟨B, 0, none⟩ = some x0 ∧ w.cell? ⟨B, 1, none⟩ = some x1 ∧ w.cell? ⟨B, 2, none⟩ = some x2 ∧ w.cell? ⟨B, 3, none⟩ = some x3 ∧ Below w0.heap.size w0 w)
    (hc : Calls P f args w fun e w' => e = .returned v ∧ Below w.heap.size w w') :
    Calls P f args w fun e w' => e = .returned v ∧ (w'.cell? ⟨B, 0, none⟩ = some x0 ∧ w'.cell? ⟨B, 1, none⟩ = some x1 ∧ w'.cell? ⟨B, 2, none⟩ = some x2 ∧ w'.cell? ⟨B, 3, none⟩ = some x3 ∧ Below w0.heap.size w0 w') := by
  obtain ⟨h0, h1, h2, h3, h4⟩ := h
  refine hc.mono fun _ _ ⟨he, hb⟩ => ⟨he, ?_, ?_, ?_, ?_, below_then h4 hb⟩
  · exact (hb.cell (p := ⟨B, 0, none⟩) (cell_lt h0)).trans h0
  · exact (hb.cell (p := ⟨B, 1, none⟩) (cell_lt h1)).trans h1
  · exact (hb.cell (p := ⟨B, 2, none⟩) (cell_lt h2)).trans h2
  · exact (hb.cell (p := ⟨B, 3, none⟩) (cell_lt h3)).trans h3
set_option maxRecDepth 100000 in
set_option maxHeartbeats 1000000 in
theorem awake_any (w : World) (hE : Env w) :
    Calls Tryd.prog 5 #[] w fun e w' => e = .returned (.bool true) ∧ Below w.heap.size w w' := by
  have HE := Lib.hid hE
  clear hE
  have HS := Lib.hid (fun (w : World) (hE : Env w) => show Calls Tryd.prog 12 #[.agg #[.int .i64 1, .int .i64 2, .int .i64 3, .string ⟨#[114, 99, 46, 49]⟩]] w fun e w' => e = .returned (.tuple #[.string ⟨#[49, 46, 50, 46, 51, 45, 114, 99, 46, 49]⟩, .int .i64 0]) ∧ Below w.heap.size w w' from
    (show_yes 1 2 3 ⟨#[114, 99, 46, 49]⟩ w hE (by decide) (by decide) (by decide) (by decide) (by decide)).mono fun _ _ ⟨h1, h2⟩ => ⟨by rw [h1, show (⟨#[114, 99, 46, 49]⟩ : ByteArray).data.toList = [114, 99, 46, 49] from rfl, awake_s]; rfl, h2⟩)
  have HC := Lib.hid (fun (w : World) (hE : Env w) => show Calls Tryd.prog 7 #[.agg #[.int .i64 1, .int .i64 2, .int .i64 3, .string ⟨#[114, 99, 46, 49]⟩], .agg #[.int .i64 1, .int .i64 2, .int .i64 3, .string ⟨#[]⟩]] w fun e w' => e = .returned (.int .i64 (-1)) ∧ Below w.heap.size w w' from
    (cmpP_any 1 2 3 ⟨#[114, 99, 46, 49]⟩ 1 2 3 ⟨#[]⟩ w hE (by decide) (by decide)).mono fun _ _ ⟨h1, h2⟩ => ⟨by rw [h1, show (⟨#[114, 99, 46, 49]⟩ : ByteArray).data.toList = [114, 99, 46, 49] from rfl, show (⟨#[]⟩ : ByteArray).data.toList = [] from rfl, awake_c], h2⟩)
  have hv : ∀ W, (Op.equalIn 10000 23 (.agg #[.int .i64 1, .int .i64 2, .int .i64 3, .string ⟨#[114, 99, 46, 49]⟩]) (.agg #[.int .i64 1, .int .i64 2, .int .i64 3, .string ⟨#[114, 99, 46, 49]⟩])).run Tryd.prog W = .ok true W := fun W => ver_eq _ _ _ _ _ _ _ _ true (by simp) W
  go_enter Tryd.func5, Tryd.ntmps5
  go_wp2_with fail
  refine (parse_lit [49, 46, 50, 46, 51, 45, 114, 99, 46, 49] 1 2 3 [114, 99, 46, 49] 0 ⟨#[114, 99, 46, 49]⟩ rfl awake_p1 (by decide) _ HE.out).mono ?_
  rintro e w1 ⟨rfl, hb1⟩
  have hE1 := Lib.hid (HE.out.below hb1)
  go_wp2_with fail
  refine (parse_lit [48, 49, 46, 50, 46, 51] 0 0 0 [] 40 ⟨#[]⟩ rfl awake_p2 (by decide) _ (hE1.out.alloc _)).mono ?_
  rintro e w2 ⟨rfl, hb2⟩
  have hE2 := Lib.hid ((hE1.out.alloc _).below hb2)
  have hx1 := box_of hb2
  have hb12 := below_then hb1 (below_first hx1)
  have v0 := box_cells hx1 0
  have v1 := box_cells hx1 1
  have v2 := box_cells hx1 2
  have v3 := box_cells hx1 3
  simp at v0 v1 v2 v3
  have hz1 := cell_lt v0
  go_wp2_with fail
  refine (HS.out _ (hE2.out.alloc _)).mono ?_
  rintro e w3 ⟨rfl, hb3⟩
  have hx3 := box_then (hx1.alloc (by omega) _) hb3
  have hE3 := Lib.hid ((hE2.out.alloc _).below hb3)
  have hbw3 := below_then hb1 (below_first hx3)
  have v0 := box_cells hx3 0
  have v1 := box_cells hx3 1
  have v2 := box_cells hx3 2
  have v3 := box_cells hx3 3
  simp at v0 v1 v2 v3
  clear hb1 hb2 hx1 hb12 hz1 hb3 hx3
  go_wp2_with fail
  have hd0 : Below w3.heap.size w3 w3.drew := (Below.refl _ _).drew
  go_region_held3 (fun w' => w'.cell? ⟨w1.heap.size, 0, none⟩ = some (.int .i64 1) ∧ w'.cell? ⟨w1.heap.size, 1, none⟩ = some (.int .i64 2) ∧ w'.cell? ⟨w1.heap.size, 2, none⟩ = some (.int .i64 3) ∧ w'.cell? ⟨w1.heap.size, 3, none⟩ = some (.string ⟨#[114, 99, 46, 49]⟩) ∧ Below w3.heap.size w3 w') (go_keep)
    (first
      | (go_at_call 6; refine (keep4 w3 _ w1.heap.size _ _ _ _ (by assumption) (core_any 1 2 3 ⟨#[114, 99, 46, 49]⟩ _)).mono ?_; rintro e w4 ⟨rfl, hk4⟩)
      | (go_at_call 7; refine (keep4 w3 _ w1.heap.size _ _ _ _ (by assumption) (HC.out _ (hE3.out.below (And.right (And.right (And.right (And.right (by assumption)))))))).mono ?_; rintro e w5 ⟨rfl, hk5⟩))
  all_goals
    go_wp2_with fail
    go_ret
    exact ⟨rfl, below_then hbw3 hk5.2.2.2.2⟩
end Go.Proofs.YtppcjlokimappaaDoor
