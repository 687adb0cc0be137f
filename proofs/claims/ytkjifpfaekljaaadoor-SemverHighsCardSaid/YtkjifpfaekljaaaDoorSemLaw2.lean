/- The law SemverCmps: a walk. -/
import Derived.Test.YtkjifpfaekljaaaDoorSemLaw1
namespace Go.Proofs.YtkjifpfaekljaaaDoor
open Go.RowKit
theorem keep8 {P : Program} {f : FuncId} {args : Array Value} {v : Value} (w0 w : World) (B : Nat) (x0 x1 x2 x3 y0 y1 y2 y3 : Value)
    (h : w.cell? ⟨B, 0, none⟩ = some x0 ∧ w.cell? ⟨B, 1, none⟩ = some x1 ∧ w.cell? ⟨B, 2, none⟩ = some x2 ∧ w.cell? ⟨B, 3, none⟩ = some x3 ∧ w.cell? ⟨B + 1, 0, none⟩ = some y0 ∧ w.cell? ⟨B + 1, 1, none⟩ = some y1 ∧ w.cell? ⟨B + 1, 2, none⟩ = some y2 ∧ w.cell? ⟨B + 1, 3, none⟩ = some y3 ∧ Below w0.heap.size w0 w)
    (hc : Calls P f args w fun e w' => e = .returned v ∧ Below w.heap.size w w') :
    Calls P f args w fun e w' => e = .returned v ∧ (w'.cell? ⟨B, 0, none⟩ = some x0 ∧ w'.cell? ⟨B, 1, none⟩ = some x1 ∧ w'.cell? ⟨B, 2, none⟩ = some x2 ∧ w'.cell? ⟨B, 3, none⟩ = some x3 ∧ w'.cell? ⟨B + 1, 0, none⟩ = some y0 ∧ w'.cell? ⟨B + 1, 1, none⟩ = some y1 ∧ w'.cell? ⟨B + 1, 2, none⟩ = some y2 ∧ w'.cell? ⟨B + 1, 3, none⟩ = some y3 ∧ Below w0.heap.size w0 w') := by
  obtain ⟨h0, h1, h2, h3, h4, h5, h6, h7, h8⟩ := h
  exact hc.mono fun _ _ ⟨he, hb⟩ => ⟨he, (hb.cell (p := ⟨B, 0, none⟩) (cell_lt h0)).trans h0, (hb.cell (p := ⟨B, 1, none⟩) (cell_lt h1)).trans h1, (hb.cell (p := ⟨B, 2, none⟩) (cell_lt h2)).trans h2, (hb.cell (p := ⟨B, 3, none⟩) (cell_lt h3)).trans h3,
    (hb.cell (p := ⟨B + 1, 0, none⟩) (cell_lt h4)).trans h4, (hb.cell (p := ⟨B + 1, 1, none⟩) (cell_lt h5)).trans h5, (hb.cell (p := ⟨B + 1, 2, none⟩) (cell_lt h6)).trans h6, (hb.cell (p := ⟨B + 1, 3, none⟩) (cell_lt h7)).trans h7, below_then h8 hb⟩
theorem keep8_alloc (w0 w : World) (o : Obj) (B : Nat) (x0 x1 x2 x3 y0 y1 y2 y3 : Value)
    (h : w.cell? ⟨B, 0, none⟩ = some x0 ∧ w.cell? ⟨B, 1, none⟩ = some x1 ∧ w.cell? ⟨B, 2, none⟩ = some x2 ∧ w.cell? ⟨B, 3, none⟩ = some x3 ∧ w.cell? ⟨B + 1, 0, none⟩ = some y0 ∧ w.cell? ⟨B + 1, 1, none⟩ = some y1 ∧ w.cell? ⟨B + 1, 2, none⟩ = some y2 ∧ w.cell? ⟨B + 1, 3, none⟩ = some y3 ∧ Below w0.heap.size w0 w) : (w.alloc o).cell? ⟨B, 0, none⟩ = some x0 ∧ (w.alloc o).cell? ⟨B, 1, none⟩ = some x1 ∧ (w.alloc o).cell? ⟨B, 2, none⟩ = some x2 ∧ (w.alloc o).cell? ⟨B, 3, none⟩ = some x3 ∧ (w.alloc o).cell? ⟨B + 1, 0, none⟩ = some y0 ∧ (w.alloc o).cell? ⟨B + 1, 1, none⟩ = some y1 ∧ (w.alloc o).cell? ⟨B + 1, 2, none⟩ = some y2 ∧ (w.alloc o).cell? ⟨B + 1, 3, none⟩ = some y3 ∧ Below w0.heap.size w0 (w.alloc o) := by
  have hb : Below w.heap.size w (w.alloc o) := (Below.refl _ _).alloc (Nat.le_refl _) o
  obtain ⟨h0, h1, h2, h3, h4, h5, h6, h7, h8⟩ := h
  exact ⟨(hb.cell (p := ⟨B, 0, none⟩) (cell_lt h0)).trans h0, (hb.cell (p := ⟨B, 1, none⟩) (cell_lt h1)).trans h1, (hb.cell (p := ⟨B, 2, none⟩) (cell_lt h2)).trans h2, (hb.cell (p := ⟨B, 3, none⟩) (cell_lt h3)).trans h3,
    (hb.cell (p := ⟨B + 1, 0, none⟩) (cell_lt h4)).trans h4, (hb.cell (p := ⟨B + 1, 1, none⟩) (cell_lt h5)).trans h5, (hb.cell (p := ⟨B + 1, 2, none⟩) (cell_lt h6)).trans h6, (hb.cell (p := ⟨B + 1, 3, none⟩) (cell_lt h7)).trans h7, below_then h8 hb⟩
theorem keep8_drew (w0 w : World) (o : Obj) (B : Nat) (x0 x1 x2 x3 y0 y1 y2 y3 : Value)
    (h : w.drew.cell? ⟨B, 0, none⟩ = some x0 ∧ w.drew.cell? ⟨B, 1, none⟩ = some x1 ∧ w.drew.cell? ⟨B, 2, none⟩ = some x2 ∧ w.drew.cell? ⟨B, 3, none⟩ = some x3 ∧ w.drew.cell? ⟨B + 1, 0, none⟩ = some y0 ∧ w.drew.cell? ⟨B + 1, 1, none⟩ = some y1 ∧ w.drew.cell? ⟨B + 1, 2, none⟩ = some y2 ∧ w.drew.cell? ⟨B + 1, 3, none⟩ = some y3 ∧ Below w0.heap.size w0 w.drew) : (w.alloc o).drew.cell? ⟨B, 0, none⟩ = some x0 ∧ (w.alloc o).drew.cell? ⟨B, 1, none⟩ = some x1 ∧ (w.alloc o).drew.cell? ⟨B, 2, none⟩ = some x2 ∧ (w.alloc o).drew.cell? ⟨B, 3, none⟩ = some x3 ∧ (w.alloc o).drew.cell? ⟨B + 1, 0, none⟩ = some y0 ∧ (w.alloc o).drew.cell? ⟨B + 1, 1, none⟩ = some y1 ∧ (w.alloc o).drew.cell? ⟨B + 1, 2, none⟩ = some y2 ∧ (w.alloc o).drew.cell? ⟨B + 1, 3, none⟩ = some y3 ∧ Below w0.heap.size w0 (w.alloc o).drew := by
  obtain ⟨h0, h1, h2, h3, h4, h5, h6, h7, h8⟩ := h
  have h9 : Below w0.heap.size w0 w := ⟨h8.os, h8.tape, h8.output, h8.size, h8.block⟩
  obtain ⟨g0, g1, g2, g3, g4, g5, g6, g7, g8⟩ := keep8_alloc w0 w o B x0 x1 x2 x3 y0 y1 y2 y3 ⟨h0, h1, h2, h3, h4, h5, h6, h7, h9⟩
  exact ⟨g0, g1, g2, g3, g4, g5, g6, g7, g8.drew⟩
theorem light_two (a b c : Int) (p : ByteArray) (a' b' c' : Int) (p' : ByteArray) (r : Bool) (w : World) (T : TypeId) (cap B : Nat) (cs : Array Value) (hB : B = w.heap.size)
    (hcs : cs = #[.int .i64 a, .int .i64 b, .int .i64 c, .string p, .int .i64 a', .int .i64 b', .int .i64 c', .string p']) (hp : p.size ≤ 9223372036854775807) (hp' : p'.size ≤ 9223372036854775807) (hr : (decide (p.size ≤ 300) && decide (p'.size ≤ 300)) = r) :
    Calls Tryd.prog 13 #[.slice (some ⟨B, 0, none⟩) 2 cap] (w.alloc (.cells cs T)) fun e w' => e = .returned (.bool r) ∧ Below (w.alloc (.cells cs T)).heap.size (w.alloc (.cells cs T)) w' := by
  have h := light_any _ [⟨a, b, c, p⟩, ⟨a', b', c', p'⟩] _ (vers_new w [⟨a, b, c, p⟩, ⟨a', b', c', p'⟩] T cap B 2 cs hB hcs rfl (by simp) (by unfold maxLen; simp)) ⟨_, cap, rfl⟩ (by intro x hx; simp at hx; rcases hx with rfl | rfl <;> assumption)
  refine h.mono fun _ _ ⟨h1, h2⟩ => ⟨?_, by rw [← h2]; exact Below.refl _ _⟩
  rw [h1, ← hr]; simp [isLight]
theorem light_two_drew (a b c : Int) (p : ByteArray) (a' b' c' : Int) (p' : ByteArray) (r : Bool) (w : World) (T : TypeId) (cap B : Nat) (cs : Array Value) (hB : B = w.heap.size)
    (hcs : cs = #[.int .i64 a, .int .i64 b, .int .i64 c, .string p, .int .i64 a', .int .i64 b', .int .i64 c', .string p']) (hp : p.size ≤ 9223372036854775807) (hp' : p'.size ≤ 9223372036854775807) (hr : (decide (p.size ≤ 300) && decide (p'.size ≤ 300)) = r) :
    Calls Tryd.prog 13 #[.slice (some ⟨B, 0, none⟩) 2 cap] (w.alloc (.cells cs T)).drew fun e w' => e = .returned (.bool r) ∧ Below (w.alloc (.cells cs T)).drew.heap.size (w.alloc (.cells cs T)).drew w' := by
  have h := light_any _ [⟨a, b, c, p⟩, ⟨a', b', c', p'⟩] _ ((vers_new w [⟨a, b, c, p⟩, ⟨a', b', c', p'⟩] T cap B 2 cs hB hcs rfl (by simp) (by unfold maxLen; simp)).below ((Below.refl _ _).drew) (Nat.le_refl _)) ⟨_, cap, rfl⟩ (by intro x hx; simp at hx; rcases hx with rfl | rfl <;> assumption)
  refine h.mono fun _ _ ⟨h1, h2⟩ => ⟨?_, by rw [← h2]; exact Below.refl _ _⟩
  rw [h1, ← hr]; simp [isLight]
set_option maxRecDepth 100000 in
set_option maxHeartbeats 4000000 in
theorem semverCmps_walk (a b c : Int) (p : ByteArray) (a' b' c' : Int) (p' : ByteArray) (w : World) (hE : Env w) (hp : p.size ≤ 9223372036854775807) (hp' : p'.size ≤ 9223372036854775807) :
    Calls Tryd.prog 5 #[.agg #[.int .i64 a, .int .i64 b, .int .i64 c, .string p], .agg #[.int .i64 a', .int .i64 b', .int .i64 c', .string p']] w fun e w' => e = .returned (.bool true) ∧ Below w.heap.size w w' := by
  have HE := Lib.hid hE
  clear hE
  have hW := ((Below.refl w.heap.size w).alloc (Nat.le_refl _) (.cells #[.int .i64 a, .int .i64 b, .int .i64 c, .string p] 23)).alloc (by simp) (.cells #[.int .i64 a', .int .i64 b', .int .i64 c', .string p'] 23)
  cases hl : (decide (p.size ≤ 300) && decide (p'.size ≤ 300))
  case false =>
    have HL := Lib.hid hl
    clear hl
    go_enter Tryd.func5, Tryd.ntmps5
    go_wp2_with fail
    have hWW := hW
    have k0 : ((w.alloc (.cells #[.int .i64 a, .int .i64 b, .int .i64 c, .string p] 23)).alloc (.cells #[.int .i64 a', .int .i64 b', .int .i64 c', .string p'] 23)).cell? ⟨w.heap.size, 0, none⟩ = some (.int .i64 a) := by go_simp
    have k1 : ((w.alloc (.cells #[.int .i64 a, .int .i64 b, .int .i64 c, .string p] 23)).alloc (.cells #[.int .i64 a', .int .i64 b', .int .i64 c', .string p'] 23)).cell? ⟨w.heap.size, 1, none⟩ = some (.int .i64 b) := by go_simp
    have k2 : ((w.alloc (.cells #[.int .i64 a, .int .i64 b, .int .i64 c, .string p] 23)).alloc (.cells #[.int .i64 a', .int .i64 b', .int .i64 c', .string p'] 23)).cell? ⟨w.heap.size, 2, none⟩ = some (.int .i64 c) := by go_simp
    have k3 : ((w.alloc (.cells #[.int .i64 a, .int .i64 b, .int .i64 c, .string p] 23)).alloc (.cells #[.int .i64 a', .int .i64 b', .int .i64 c', .string p'] 23)).cell? ⟨w.heap.size, 3, none⟩ = some (.string p) := by go_simp
    have l0 : ((w.alloc (.cells #[.int .i64 a, .int .i64 b, .int .i64 c, .string p] 23)).alloc (.cells #[.int .i64 a', .int .i64 b', .int .i64 c', .string p'] 23)).cell? ⟨w.heap.size + 1, 0, none⟩ = some (.int .i64 a') := by go_simp
    have l1 : ((w.alloc (.cells #[.int .i64 a, .int .i64 b, .int .i64 c, .string p] 23)).alloc (.cells #[.int .i64 a', .int .i64 b', .int .i64 c', .string p'] 23)).cell? ⟨w.heap.size + 1, 1, none⟩ = some (.int .i64 b') := by go_simp
    have l2 : ((w.alloc (.cells #[.int .i64 a, .int .i64 b, .int .i64 c, .string p] 23)).alloc (.cells #[.int .i64 a', .int .i64 b', .int .i64 c', .string p'] 23)).cell? ⟨w.heap.size + 1, 2, none⟩ = some (.int .i64 c') := by go_simp
    have l3 : ((w.alloc (.cells #[.int .i64 a, .int .i64 b, .int .i64 c, .string p] 23)).alloc (.cells #[.int .i64 a', .int .i64 b', .int .i64 c', .string p'] 23)).cell? ⟨w.heap.size + 1, 3, none⟩ = some (.string p') := by go_simp
    generalize ((w.alloc (.cells #[.int .i64 a, .int .i64 b, .int .i64 c, .string p] 23)).alloc (.cells #[.int .i64 a', .int .i64 b', .int .i64 c', .string p'] 23)) = W at hWW k0 k1 k2 k3 l0 l1 l2 l3 ⊢
    have hd0 := hWW.drew
    refine wp_region_held_drew (S := fun w' => w'.cell? ⟨w.heap.size, 0, none⟩ = some (.int .i64 a) ∧ w'.cell? ⟨w.heap.size, 1, none⟩ = some (.int .i64 b) ∧ w'.cell? ⟨w.heap.size, 2, none⟩ = some (.int .i64 c) ∧ w'.cell? ⟨w.heap.size, 3, none⟩ = some (.string p) ∧ w'.cell? ⟨w.heap.size + 1, 0, none⟩ = some (.int .i64 a') ∧ w'.cell? ⟨w.heap.size + 1, 1, none⟩ = some (.int .i64 b') ∧ w'.cell? ⟨w.heap.size + 1, 2, none⟩ = some (.int .i64 c') ∧ w'.cell? ⟨w.heap.size + 1, 3, none⟩ = some (.string p') ∧ Below w.heap.size w w') (by kernel_rfl) (⟨k0, k1, k2, k3, l0, l1, l2, l3, hd0⟩) (fun hHeld => ?_)
    refine wpAnyH_take (i := 0) (v := ?_) rfl (by kernel_rfl) (by kernel_rfl) (by kernel_rfl) (fun _ _ _ h => h) (Or.inl ⟨by rfl, ?_⟩) (by assumption) ?_
    rotate_left
    · (intro W hSw; (try dsimp only at hSw); go_simp; (try with_reducible rfl))
    (try simp only [Act.put]); (try simp only [List.setIfInBounds_toArray]); (try simp only [List.set_cons_succ]); (try simp only [List.set_cons_zero])
    refine wpAnyH_take (i := 1) (v := ?_) rfl (by kernel_rfl) (by kernel_rfl) (by kernel_rfl) (fun _ _ _ h => h) (Or.inl ⟨by rfl, ?_⟩) (by assumption) ?_
    rotate_left
    · (intro W hSw; (try dsimp only at hSw); go_simp; (try with_reducible rfl))
    (try simp only [Act.put]); (try simp only [List.setIfInBounds_toArray]); (try simp only [List.set_cons_succ]); (try simp only [List.set_cons_zero])
    refine wpAnyH_ready (rs := [2]) (by kernel_rfl) (by simp) ?_
    refine AllReadyH.cons rfl (fun K hK => ?_) AllReadyH.nil
    go_simp
    refine hK.out _ _ (keep8_drew w _ _ w.heap.size _ _ _ _ _ _ _ _ hHeld) (fun hHeld => ?_)
    clear hK K
    (try simp only [Act.put]); (try simp only [List.setIfInBounds_toArray]); (try simp only [List.set_cons_succ]); (try simp only [List.set_cons_zero])
    refine wpAnyH_ready (rs := [3]) (by kernel_rfl) (by simp) ?_
    refine AllReadyH.cons rfl (fun K hK => ?_) AllReadyH.nil
    go_simp
    refine (keep8 w _ w.heap.size _ _ _ _ _ _ _ _ hHeld (light_two_drew a b c p a' b' c' p' false _ _ _ _ _ (by simp) rfl hp hp' HL.out)).mono ?_
    rintro e w3 ⟨rfl, hk3⟩
    refine hK.out _ _ (hk3) (fun hHeld => ?_)
    clear hK K
    (try simp only [Act.put]); (try simp only [List.setIfInBounds_toArray]); (try simp only [List.set_cons_succ]); (try simp only [List.set_cons_zero])
    refine wpAnyH_take (i := 4) (v := ?_) rfl (by kernel_rfl) (by kernel_rfl) (by kernel_rfl) (fun _ _ _ h => h) (Or.inl ⟨by rfl, ?_⟩) (by assumption) ?_
    rotate_left
    · (intro W hSw; (try dsimp only at hSw); go_simp; (try with_reducible rfl))
    (try simp only [Act.put]); (try simp only [List.setIfInBounds_toArray]); (try simp only [List.set_cons_succ]); (try simp only [List.set_cons_zero])
    refine wpAnyH_take (i := 5) (v := ?_) rfl (by kernel_rfl) (by kernel_rfl) (by kernel_rfl) (fun _ _ _ h => h) (Or.inl ⟨by rfl, ?_⟩) (by assumption) ?_
    rotate_left
    · (intro W hSw; (try dsimp only at hSw); go_simp; (try with_reducible rfl))
    (try simp only [Act.put]); (try simp only [List.setIfInBounds_toArray]); (try simp only [List.set_cons_succ]); (try simp only [List.set_cons_zero])
    refine wpAnyH_take (i := 6) (v := undef) rfl (by kernel_rfl) (by kernel_rfl) (by kernel_rfl) (fun _ _ _ h => h) (Or.inr ⟨by rfl, rfl⟩) (by assumption) ?_
    (try simp only [Act.put]); (try simp only [List.setIfInBounds_toArray]); (try simp only [List.set_cons_succ]); (try simp only [List.set_cons_zero])
    refine wpAnyH_take (i := 7) (v := undef) rfl (by kernel_rfl) (by kernel_rfl) (by kernel_rfl) (fun _ _ _ h => h) (Or.inr ⟨by rfl, rfl⟩) (by assumption) ?_
    (try simp only [Act.put]); (try simp only [List.setIfInBounds_toArray]); (try simp only [List.set_cons_succ]); (try simp only [List.set_cons_zero])
    refine wpAnyH_take (i := 9) (v := undef) rfl (by kernel_rfl) (by kernel_rfl) (by kernel_rfl) (fun _ _ _ h => h) (Or.inr ⟨by rfl, rfl⟩) (by assumption) ?_
    (try simp only [Act.put]); (try simp only [List.setIfInBounds_toArray]); (try simp only [List.set_cons_succ]); (try simp only [List.set_cons_zero])
    refine wpAnyH_take (i := 10) (v := undef) rfl (by kernel_rfl) (by kernel_rfl) (by kernel_rfl) (fun _ _ _ h => h) (Or.inr ⟨by rfl, rfl⟩) (by assumption) ?_
    (try simp only [Act.put]); (try simp only [List.setIfInBounds_toArray]); (try simp only [List.set_cons_succ]); (try simp only [List.set_cons_zero])
    refine wpAnyH_ready (rs := [8]) (by kernel_rfl) (by simp) ?_
    refine AllReadyH.cons rfl (fun K hK => ?_) AllReadyH.nil
    go_simp
    refine hK.out _ _ (hHeld) (fun hHeld => ?_)
    clear hK K
    (try simp only [Act.put]); (try simp only [List.setIfInBounds_toArray]); (try simp only [List.set_cons_succ]); (try simp only [List.set_cons_zero])
    refine wpAnyH_ready (rs := [11]) (by kernel_rfl) (by simp) ?_
    refine AllReadyH.cons rfl (fun K hK => ?_) AllReadyH.nil
    go_simp
    refine hK.out _ _ (hHeld) (fun hHeld => ?_)
    clear hK K
    (try simp only [Act.put]); (try simp only [List.setIfInBounds_toArray]); (try simp only [List.set_cons_succ]); (try simp only [List.set_cons_zero])
    refine wpAnyH_take (i := 12) (v := undef) rfl (by kernel_rfl) (by kernel_rfl) (by kernel_rfl) (fun _ _ _ h => h) (Or.inr ⟨by rfl, rfl⟩) (by assumption) ?_
    (try simp only [Act.put]); (try simp only [List.setIfInBounds_toArray]); (try simp only [List.set_cons_succ]); (try simp only [List.set_cons_zero])
    refine wpAnyH_take (i := 13) (v := ?_) rfl (by kernel_rfl) (by kernel_rfl) (by kernel_rfl) (fun _ _ _ h => h) (Or.inl ⟨by rfl, ?_⟩) (by assumption) ?_
    rotate_left
    · (intro W hSw; (try dsimp only at hSw); go_simp; (try with_reducible rfl))
    (try simp only [Act.put]); (try simp only [List.setIfInBounds_toArray]); (try simp only [List.set_cons_succ]); (try simp only [List.set_cons_zero])
    refine wpAnyH_take (i := 14) (v := ?_) rfl (by kernel_rfl) (by kernel_rfl) (by kernel_rfl) (fun _ _ _ h => h) (Or.inl ⟨by rfl, ?_⟩) (by assumption) ?_
    rotate_left
    · (intro W hSw; (try dsimp only at hSw); go_simp; (try with_reducible rfl))
    (try simp only [Act.put]); (try simp only [List.setIfInBounds_toArray]); (try simp only [List.set_cons_succ]); (try simp only [List.set_cons_zero])
    refine wpAnyH_ready (rs := [15]) (by kernel_rfl) (by simp) ?_
    refine AllReadyH.cons rfl (fun K hK => ?_) AllReadyH.nil
    go_simp
    refine (keep8 w _ w.heap.size _ _ _ _ _ _ _ _ hHeld (awake_any _ (HE.out.below (And.right (And.right (And.right (And.right (And.right (And.right (And.right (And.right (hHeld)))))))))))).mono ?_
    rintro e w6 ⟨rfl, hk6⟩
    refine hK.out _ _ (hk6) (fun hHeld => ?_)
    clear hK K
    (try simp only [Act.put]); (try simp only [List.setIfInBounds_toArray]); (try simp only [List.set_cons_succ]); (try simp only [List.set_cons_zero])
    refine wpAnyH_ready (rs := [16]) (by kernel_rfl) (by simp) ?_
    refine AllReadyH.cons rfl (fun K hK => ?_) AllReadyH.nil
    go_simp
    refine hK.out _ _ (hHeld) (fun hHeld => ?_)
    clear hK K
    (try simp only [Act.put]); (try simp only [List.setIfInBounds_toArray]); (try simp only [List.set_cons_succ]); (try simp only [List.set_cons_zero])
    refine wpAnyH_ready (rs := [17]) (by kernel_rfl) (by simp) ?_
    refine AllReadyH.cons rfl (fun K hK => ?_) AllReadyH.nil
    go_simp
    refine hK.out _ _ (hHeld) (fun hHeld => ?_)
    clear hK K
    (try simp only [Act.put]); (try simp only [List.setIfInBounds_toArray]); (try simp only [List.set_cons_succ]); (try simp only [List.set_cons_zero])
    refine wpAnyH_done (by kernel_rfl) ?_ _
    go_wp2_with fail
    go_ret
    exact ⟨rfl, hk6.2.2.2.2.2.2.2.2⟩
  case true =>
    have h1 : p.size ≤ 300 := by simp at hl; exact hl.1
    have h2 : p'.size ≤ 300 := by simp at hl; exact hl.2
    have HL := Lib.hid hl
    clear hl
    obtain ⟨r, hr⟩ : ∃ r, cmpV a b c p.data.toList a' b' c' p'.data.toList = r := ⟨_, rfl⟩
    have HC1 := Lib.hid (fun w (h : Env w) => show Calls Tryd.prog 19 #[.agg #[.int .i64 a, .int .i64 b, .int .i64 c, .string p], .agg #[.int .i64 a', .int .i64 b', .int .i64 c', .string p']] w fun e w' => e = .returned (.int .i64 r) ∧ Below w.heap.size w w' from by subst hr; exact cmpP_any a b c p a' b' c' p' w h h1 h2)
    have HC2 := Lib.hid (fun w => show Calls Tryd.prog 20 #[.agg #[.int .i64 a, .int .i64 b, .int .i64 c, .string p], .agg #[.int .i64 a', .int .i64 b', .int .i64 c', .string p']] w fun e w' => e = .returned (.int .i64 r) ∧ Below w.heap.size w w' from by subst hr; exact refCmp_any a b c p a' b' c' p' w h1 h2)
    clear hr
    go_enter Tryd.func5, Tryd.ntmps5
    go_wp2_with fail
    have hWW := hW
    have k0 : ((w.alloc (.cells #[.int .i64 a, .int .i64 b, .int .i64 c, .string p] 23)).alloc (.cells #[.int .i64 a', .int .i64 b', .int .i64 c', .string p'] 23)).cell? ⟨w.heap.size, 0, none⟩ = some (.int .i64 a) := by go_simp
    have k1 : ((w.alloc (.cells #[.int .i64 a, .int .i64 b, .int .i64 c, .string p] 23)).alloc (.cells #[.int .i64 a', .int .i64 b', .int .i64 c', .string p'] 23)).cell? ⟨w.heap.size, 1, none⟩ = some (.int .i64 b) := by go_simp
    have k2 : ((w.alloc (.cells #[.int .i64 a, .int .i64 b, .int .i64 c, .string p] 23)).alloc (.cells #[.int .i64 a', .int .i64 b', .int .i64 c', .string p'] 23)).cell? ⟨w.heap.size, 2, none⟩ = some (.int .i64 c) := by go_simp
    have k3 : ((w.alloc (.cells #[.int .i64 a, .int .i64 b, .int .i64 c, .string p] 23)).alloc (.cells #[.int .i64 a', .int .i64 b', .int .i64 c', .string p'] 23)).cell? ⟨w.heap.size, 3, none⟩ = some (.string p) := by go_simp
    have l0 : ((w.alloc (.cells #[.int .i64 a, .int .i64 b, .int .i64 c, .string p] 23)).alloc (.cells #[.int .i64 a', .int .i64 b', .int .i64 c', .string p'] 23)).cell? ⟨w.heap.size + 1, 0, none⟩ = some (.int .i64 a') := by go_simp
    have l1 : ((w.alloc (.cells #[.int .i64 a, .int .i64 b, .int .i64 c, .string p] 23)).alloc (.cells #[.int .i64 a', .int .i64 b', .int .i64 c', .string p'] 23)).cell? ⟨w.heap.size + 1, 1, none⟩ = some (.int .i64 b') := by go_simp
    have l2 : ((w.alloc (.cells #[.int .i64 a, .int .i64 b, .int .i64 c, .string p] 23)).alloc (.cells #[.int .i64 a', .int .i64 b', .int .i64 c', .string p'] 23)).cell? ⟨w.heap.size + 1, 2, none⟩ = some (.int .i64 c') := by go_simp
    have l3 : ((w.alloc (.cells #[.int .i64 a, .int .i64 b, .int .i64 c, .string p] 23)).alloc (.cells #[.int .i64 a', .int .i64 b', .int .i64 c', .string p'] 23)).cell? ⟨w.heap.size + 1, 3, none⟩ = some (.string p') := by go_simp
    generalize ((w.alloc (.cells #[.int .i64 a, .int .i64 b, .int .i64 c, .string p] 23)).alloc (.cells #[.int .i64 a', .int .i64 b', .int .i64 c', .string p'] 23)) = W at hWW k0 k1 k2 k3 l0 l1 l2 l3 ⊢
    have hd0 := hWW.drew
    go_region_held3 (fun w' => w'.cell? ⟨w.heap.size, 0, none⟩ = some (.int .i64 a) ∧ w'.cell? ⟨w.heap.size, 1, none⟩ = some (.int .i64 b) ∧ w'.cell? ⟨w.heap.size, 2, none⟩ = some (.int .i64 c) ∧ w'.cell? ⟨w.heap.size, 3, none⟩ = some (.string p) ∧ w'.cell? ⟨w.heap.size + 1, 0, none⟩ = some (.int .i64 a') ∧ w'.cell? ⟨w.heap.size + 1, 1, none⟩ = some (.int .i64 b') ∧ w'.cell? ⟨w.heap.size + 1, 2, none⟩ = some (.int .i64 c') ∧ w'.cell? ⟨w.heap.size + 1, 3, none⟩ = some (.string p') ∧ Below w.heap.size w w') (first | exact keep8_drew w _ _ w.heap.size _ _ _ _ _ _ _ _ (by assumption) | exact keep8_alloc w _ _ w.heap.size _ _ _ _ _ _ _ _ (by assumption) | go_keep)
      (first
        | (go_at_call 13; refine (keep8 w _ w.heap.size _ _ _ _ _ _ _ _ (by assumption) (light_two_drew a b c p a' b' c' p' true _ _ _ _ _ (by simp) rfl hp hp' HL.out)).mono ?_; rintro e w3 ⟨rfl, hk3⟩)
        | (go_at_call 19; refine (keep8 w _ w.heap.size _ _ _ _ _ _ _ _ (by assumption) (HC1.out _ (HE.out.below (And.right (And.right (And.right (And.right (And.right (And.right (And.right (And.right (by assumption)))))))))))).mono ?_; rintro e w4 ⟨rfl, hk4⟩)
        | (go_at_call 20; refine (keep8 w _ w.heap.size _ _ _ _ _ _ _ _ (by assumption) (HC2.out _)).mono ?_; rintro e w5 ⟨rfl, hk5⟩)
        | (go_at_call 12; refine (keep8 w _ w.heap.size _ _ _ _ _ _ _ _ (by assumption) (awake_any _ (HE.out.below (And.right (And.right (And.right (And.right (And.right (And.right (And.right (And.right (by assumption)))))))))))).mono ?_; rintro e w6 ⟨rfl, hk6⟩))
    all_goals
      go_wp2_with fail
      go_ret
      exact ⟨rfl, hk6.2.2.2.2.2.2.2.2⟩
end Go.Proofs.YtkjifpfaekljaaaDoor
