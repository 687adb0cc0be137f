/- The laws SemverParses, SemverShows, SemverCmps: walks. -/
import Derived.Test.YtkjifpfaekljaaaDoorSemAwake2
namespace Go.Proofs.YtkjifpfaekljaaaDoor
open Go.RowKit
set_option maxRecDepth 100000 in
set_option maxHeartbeats 1000000 in
theorem semverParses_walk (s : ByteArray) (w : World) (hE : Env w) (hs : s.size < 4294967281) :
    Calls Tryd.prog 3 #[.string s] w fun e w' => e = .returned (.bool true) ∧ Below w.heap.size w w' := by
  have HE := Lib.hid hE
  clear hE
  go_enter Tryd.func3, Tryd.ntmps3
  go_wp2_with fail
  refine (parse_any s _ HE.out hs).mono ?_
  rintro e w1 ⟨a, b, c, p, er, rfl, hp1, hb1⟩
  have hv : ∀ W, (Op.equalIn 10000 23 (.agg #[.int .i64 a, .int .i64 b, .int .i64 c, .string (S p)]) (.agg #[.int .i64 a, .int .i64 b, .int .i64 c, .string (S p)])).run Tryd.prog W = .ok true W := fun W => ver_eq _ _ _ _ _ _ _ _ true (by simp) W
  have HP := Lib.hid hp1
  clear hp1
  go_wp2_with fail
  refine (refParse_any s _ (by omega)).mono ?_
  rintro e w2 ⟨a', b', c', p', er', rfl, hp2, hb2⟩
  obtain ⟨rfl, rfl, rfl, rfl, rfl⟩ := ParseIs.uniq hp2 HP.out
  have hx1 := box_of hb2
  have hb12 := below_then hb1 (below_first hx1)
  have v0 := box_cells hx1 0
  have v1 := box_cells hx1 1
  have v2 := box_cells hx1 2
  have v3 := box_cells hx1 3
  simp at v0 v1 v2 v3
  have hz1 := cell_lt v0
  clear hp2 hb1 hb2 hx1
  go_wp2_with fail
  refine (awake_any _ (HE.out.below (hb12.alloc hb12.size _))).mono ?_
  rintro e w3 ⟨rfl, hb3⟩
  go_wp2_with fail
  go_ret
  exact ⟨rfl, below_then (hb12.alloc hb12.size _) hb3⟩
theorem light_one (a b c : Int) (p : ByteArray) (r : Bool) (w : World) (T : TypeId) (cap B : Nat) (cs : Array Value) (hB : B = w.heap.size) (hcs : cs = #[.int .i64 a, .int .i64 b, .int .i64 c, .string p]) (hp : p.size ≤ 9223372036854775807) (hr : decide (p.size ≤ 300) = r) :
    Calls Tryd.prog 13 #[.slice (some ⟨B, 0, none⟩) 1 cap] (w.alloc (.cells cs T)) fun e w' => e = .returned (.bool r) ∧ w.alloc (.cells cs T) = w' := by
  have h := light_any _ [⟨a, b, c, p⟩] _ (vers_new w [⟨a, b, c, p⟩] T cap B 1 cs hB hcs rfl (by simp) (by unfold maxLen; simp)) ⟨_, cap, rfl⟩ (by simpa using hp)
  refine h.mono fun _ _ ⟨h1, h2⟩ => ⟨?_, h2⟩
  rw [h1, ← hr]; simp [isLight]
set_option maxRecDepth 100000 in
set_option maxHeartbeats 2000000 in
theorem semverShows_walk (a b c : Int) (p : ByteArray) (w : World) (hE : Env w) (hp : p.size ≤ 9223372036854775807) :
    Calls Tryd.prog 4 #[.agg #[.int .i64 a, .int .i64 b, .int .i64 c, .string p]] w fun e w' => e = .returned (.bool true) ∧ Below w.heap.size w w' := by
  have HE := Lib.hid hE
  clear hE
  have hW := ((Below.refl w.heap.size w).alloc (Nat.le_refl _) (.cells #[.int .i64 a, .int .i64 b, .int .i64 c, .string p] 23)).alloc (by simp) (.cells #[.int .i64 a, .int .i64 b, .int .i64 c, .string p] 23)
  have hX := (Below.refl (w.heap.size + 1) (w.alloc (.cells #[.int .i64 a, .int .i64 b, .int .i64 c, .string p] 23))).alloc (by simp) (.cells #[.int .i64 a, .int .i64 b, .int .i64 c, .string p] 23)
  by_cases hl : p.size ≤ 300
  case neg =>
    have HL := Lib.hid (show decide (p.size ≤ 300) = false by simpa using hl)
    have HV : Hid (verErr a b c p.data.toList = 40) := by
      show _ = _
      unfold verErr
      rw [if_neg]
      intro h
      have := verOk_bounds h
      rw [← Lib.size_eq] at this
      omega
    clear hl
    go_enter Tryd.func4, Tryd.ntmps4
    go_wp2_with fail
    refine (light_one a b c p false _ _ _ _ #[.int .i64 a, .int .i64 b, .int .i64 c, .string p] (by simp) rfl hp HL.out).mono ?_
    rintro e w1 ⟨rfl, rfl⟩
    go_wp2_with fail
    refine (show_no a b c p _ (HE.out.below hW) hp HV.out).mono ?_
    rintro e w1 ⟨rfl, hb1⟩
    have hb := below_then hW hb1
    go_wp2_with fail
    refine (awake_any _ (HE.out.below hb)).mono ?_
    rintro e w3 ⟨rfl, hb3⟩
    go_wp2_with fail
    go_ret
    exact ⟨rfl, below_then hb hb3⟩
  have HL := Lib.hid (show decide (p.size ≤ 300) = true by simpa using hl)
  obtain ⟨r, hr⟩ : ∃ r, verErr a b c p.data.toList = r := ⟨_, rfl⟩
  have hsh : ∃ t : ByteArray, (∀ w, Env w → Calls Tryd.prog 14 #[.agg #[.int .i64 a, .int .i64 b, .int .i64 c, .string p]] w fun e w' => e = .returned (.tuple #[.string t, .int .i64 r]) ∧ Below w.heap.size w w') ∧
      (∀ w, Calls Tryd.prog 15 #[.agg #[.int .i64 a, .int .i64 b, .int .i64 c, .string p]] w fun e w' => e = .returned (.tuple #[.string t, .int .i64 r]) ∧ Below w.heap.size w w') := by
    cases hok : verOk a b c p.data.toList
    · have h40 : verErr a b c p.data.toList = 40 := by unfold verErr; rw [hok]; rfl
      have : r = 40 := by rw [← hr, h40]
      subst this
      exact ⟨⟨#[]⟩, fun w h => show_no a b c p w h hp h40, fun w => refShow_no a b c p w hp h40⟩
    · have h0 : verErr a b c p.data.toList = 0 := by unfold verErr; rw [hok]; rfl
      have : r = 0 := by rw [← hr, h0]
      subst this
      have hb := verOk_bounds hok
      have hps : p.size ≤ 24 := by rw [Lib.size_eq]; exact hb.2.2.2.2.2.2.1
      obtain ⟨A, rfl⟩ : ∃ A : Nat, a = A := ⟨a.toNat, by omega⟩
      obtain ⟨B, rfl⟩ : ∃ B : Nat, b = B := ⟨b.toNat, by omega⟩
      obtain ⟨C, rfl⟩ : ∃ C : Nat, c = C := ⟨c.toNat, by omega⟩
      exact ⟨_, fun w h => show_yes A B C p w h hps (by omega) (by omega) (by omega) h0, fun w => refShow_yes A B C p w hps (by omega) (by omega) (by omega) h0⟩
  obtain ⟨t, hsh1, hsh2⟩ := hsh
  have HS1 := Lib.hid hsh1
  have HS2 := Lib.hid hsh2
  have HR := Lib.hid hr
  have hv : ∀ W, (Op.equalIn 10000 23 (.agg #[.int .i64 a, .int .i64 b, .int .i64 c, .string ⟨#[]⟩]) (.agg #[.int .i64 a, .int .i64 b, .int .i64 c, .string ⟨#[]⟩])).run Tryd.prog W = .ok true W := fun W => ver_eq _ _ _ _ _ _ _ _ true (by simp) W
  clear hl hr hsh1 hsh2
  go_enter Tryd.func4, Tryd.ntmps4
  go_wp2_with fail
  refine (light_one a b c p true _ _ _ _ #[.int .i64 a, .int .i64 b, .int .i64 c, .string p] (by simp) rfl hp HL.out).mono ?_
  rintro e w1 ⟨rfl, rfl⟩
  go_wp2_with fail
  refine (HS1.out _ (HE.out.below hW)).mono ?_
  rintro e w1 ⟨rfl, hb1⟩
  have hb := below_then hW hb1
  have hx := hX.trans (hb1.mono (by simp))
  have v0 := box_cells hx 0
  have v1 := box_cells hx 1
  have v2 := box_cells hx 2
  have v3 := box_cells hx 3
  simp at v0 v1 v2 v3
  go_wp2_with fail
  refine (HS2.out _).mono ?_
  rintro e w2 ⟨rfl, hb2⟩
  have hbb := below_then hb hb2
  have hxx := box_then hx hb2
  have v0 := box_cells hxx 0
  have v1 := box_cells hxx 1
  have v2 := box_cells hxx 2
  have v3 := box_cells hxx 3
  simp at v0 v1 v2 v3
  have HE2 := Lib.hid (HE.out.below hbb)
  clear hX hx hb1 hb2 hb hxx hW
  go_wp2_with fail
  have hd0 : Below w2.heap.size w2 w2.drew := (Below.refl _ _).drew
  go_region_held3 (fun w' => w'.cell? ⟨w.heap.size, 0, none⟩ = some (.int .i64 a) ∧ w'.cell? ⟨w.heap.size, 1, none⟩ = some (.int .i64 b) ∧ w'.cell? ⟨w.heap.size, 2, none⟩ = some (.int .i64 c) ∧ w'.cell? ⟨w.heap.size, 3, none⟩ = some (.string p) ∧ Below w2.heap.size w2 w') (go_keep)
    (first
      | (go_at_call 18; refine (keep4 w2 _ w.heap.size _ _ _ _ (by assumption) (core_any a b c p _)).mono ?_; rintro e w3 ⟨rfl, hk3⟩)
      | (go_at_call 16; refine (keep4 w2 _ w.heap.size _ _ _ _ (by assumption) (checkP_as a b c p r HR.out _ (HE2.out.below (And.right (And.right (And.right (And.right (by assumption)))))) hp)).mono ?_; rintro e w4 ⟨rfl, hk4⟩)
      | (go_at_call 17; refine (keep4 w2 _ w.heap.size _ _ _ _ (by assumption) (check_as a b c r p HR.out _ hp)).mono ?_; rintro e w5 ⟨rfl, hk5⟩)
      | (go_at_call 12; refine (keep4 w2 _ w.heap.size _ _ _ _ (by assumption) (awake_any _ (HE2.out.below (And.right (And.right (And.right (And.right (by assumption)))))))).mono ?_; rintro e w6 ⟨rfl, hk6⟩))
  all_goals
    go_wp2_with fail
    go_ret
    exact ⟨rfl, below_then hbb hk6.2.2.2.2⟩
end Go.Proofs.YtkjifpfaekljaaaDoor
