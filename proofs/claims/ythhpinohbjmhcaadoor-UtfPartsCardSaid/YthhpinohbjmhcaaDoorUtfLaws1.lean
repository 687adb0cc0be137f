/- The laws UtfDecodes, UtfEncodes, UtfPlaces: walks. -/
import Derived.Test.YthhpinohbjmhcaaDoorUtfAwake
namespace Go.Proofs.YthhpinohbjmhcaaDoor
open Go.RowKit
abbrev Tabs (w : World) : Prop := Lib.Utf8Tabs 0 1 w
set_option maxRecDepth 100000 in
set_option maxHeartbeats 1000000 in
theorem utfDecodes_walk (s : ByteArray) (w : World) (hs : s.size ≤ maxLen) (hT : Tabs w) (hF : FirstSaid) :
    Calls Tryd.prog 3 #[.string s] w fun e w' => e = .returned (.bool true) ∧ Below w.heap.size w w' := by
  unfold maxLen at hs
  have hTs := tabs_size hT
  have HT := Lib.hid hT
  have HF := Lib.hid hF
  clear hT hF
  by_cases hl : 20000 < s.size
  · have q : decide ((20000 : Int) < (s.size : Int)) = true := by simp; omega
    go_enter Tryd.func3, Tryd.ntmps3
    go_wp2_with (go_at_call 9; go_must (refine (awake_any _ HT.out).mono ?_); rintro e w1 ⟨rfl, hb1⟩)
    go_ret
    exact ⟨rfl, hb1⟩
  · have q : decide ((20000 : Int) < (s.size : Int)) = false := by simp; omega
    go_enter Tryd.func3, Tryd.ntmps3
    go_wp2_with fail
    refine (utfDecode_any s _ (by omega) HT.out).mono ?_
    rintro e w1 ⟨v1, rfl, hI1, hb1⟩
    have z1 := hb1.size
    have t1 := (Below.refl w.heap.size w).trans hb1
    go_wp2_with fail
    refine (refDecode_any s _ (by omega) HF.out).mono ?_
    rintro e w2 ⟨v2, rfl, hI2, hb2⟩
    have p2 : Below (w1.heap.size + 1) (w1.alloc (.cells #[.int .i64 (decErr s), .int .i64 (decAt s)] 26)) w2 := hb2.mono (by simp)
    have z2 := p2.size
    simp at z2
    go_wp2_with fail
    refine (same_t _ _ (decPts s) (decPts s) _ rfl (Ints.below hI1 ((below_first p2).alloc (by omega) _) (Nat.le_refl _)) (Ints.below hI2 ((Below.refl _ _).alloc (Nat.le_refl _) _) (Nat.le_refl _))).mono ?_
    rintro e w3 ⟨rfl, hb3⟩
    have p3 := (p2.alloc (by omega) (.cells #[.int .i64 (decErr s), .int .i64 (decAt s)] 26)).trans (hb3.mono (by simp; omega))
    have q3 : Below (w2.heap.size + 1) (w2.alloc (.cells #[.int .i64 (decErr s), .int .i64 (decAt s)] 26)) w3 := hb3.mono (by simp)
    obtain ⟨c1, c2, _, _, _⟩ := pair_cells p3
    obtain ⟨c3, c4, _, _, _⟩ := pair_cells q3
    have r3 := hb1.trans ((below_first p3).mono (by omega))
    have HT3 := Lib.hid (tabs_below HT.out r3 hTs.1 hTs.2)
    clear p2 p3 q3 hb2 hb3 hI1 hI2 t1
    go_wp2_with (go_at_call 9; go_must (refine (awake_any _ HT3.out).mono ?_); rintro e w4 ⟨rfl, hb4⟩)
    go_ret
    exact ⟨rfl, r3.trans (hb4.mono r3.size)⟩
set_option maxRecDepth 100000 in
set_option maxHeartbeats 1000000 in
theorem utfEncodes_walk (v : Value) (xs : List Int) (w : World) (hx : Ints w v xs) (hlen : ∃ a cap, v = .slice a xs.length cap) (hT : Tabs w) :
    Calls Tryd.prog 4 #[v] w fun e w' => e = .returned (.bool true) ∧ Below w.heap.size w w' := by
  obtain ⟨a, cap, rfl⟩ := hlen
  have hm := hx.cases.1
  unfold maxLen at hm
  have hTs := tabs_size hT
  have HT := Lib.hid hT
  have HX := Lib.hid hx
  clear hT hx
  by_cases hl : 5000 < xs.length
  · have q : decide ((5000 : Int) < (xs.length : Int)) = true := by simp; omega
    go_enter Tryd.func4, Tryd.ntmps4
    go_wp2_with (go_at_call 9; go_must (refine (awake_any _ HT.out).mono ?_); rintro e w1 ⟨rfl, hb1⟩)
    go_ret
    exact ⟨rfl, hb1⟩
  · have q : decide ((5000 : Int) < (xs.length : Int)) = false := by simp; omega
    go_enter Tryd.func4, Tryd.ntmps4
    go_wp2_with fail
    refine (utfEncode_any _ xs _ HX.out (by omega)).mono ?_
    rintro e w1 ⟨rfl, hb1⟩
    go_wp2_with fail
    refine (refEncode_any _ xs _ (Ints.below HX.out hb1 (Nat.le_refl _)) (by omega)).mono ?_
    rintro e w2 ⟨rfl, hb2⟩
    have r2 := hb1.trans (hb2.mono hb1.size)
    have HT2 := Lib.hid (tabs_below HT.out r2 hTs.1 hTs.2)
    go_wp2_with (go_at_call 9; go_must (refine (awake_any _ HT2.out).mono ?_); rintro e w4 ⟨rfl, hb4⟩)
    go_ret
    exact ⟨rfl, r2.trans (hb4.mono r2.size)⟩
set_option maxRecDepth 100000 in
set_option maxHeartbeats 1000000 in
theorem utfPlaces_walk (s : ByteArray) (p : Int) (w : World) (hs : s.size ≤ maxLen) (hT : Tabs w) (hF : FirstSaid) :
    Calls Tryd.prog 5 #[.string s, .int .i64 p] w fun e w' => e = .returned (.bool true) ∧ Below w.heap.size w w' := by
  unfold maxLen at hs
  have hTs := tabs_size hT
  have HT := Lib.hid hT
  have HF := Lib.hid hF
  clear hT hF
  by_cases hl : 20000 < s.size
  · have q : decide ((20000 : Int) < (s.size : Int)) = true := by simp; omega
    go_enter Tryd.func5, Tryd.ntmps5
    go_wp2_with (go_at_call 9; go_must (refine (awake_any _ HT.out).mono ?_); rintro e w1 ⟨rfl, hb1⟩)
    go_ret
    exact ⟨rfl, hb1⟩
  · have q : decide ((20000 : Int) < (s.size : Int)) = false := by simp; omega
    go_enter Tryd.func5, Tryd.ntmps5
    go_wp2_with fail
    refine (utfPlace_any s p _ (by omega) HT.out).mono ?_
    rintro e w1 ⟨rfl, hb1⟩
    go_wp2_with fail
    refine (refPlace_any s p _ (by omega) HF.out).mono ?_
    rintro e w2 ⟨rfl, hb2⟩
    have r2 := hb1.trans (hb2.mono hb1.size)
    have HT2 := Lib.hid (tabs_below HT.out r2 hTs.1 hTs.2)
    go_wp2_with (go_at_call 9; go_must (refine (awake_any _ HT2.out).mono ?_); rintro e w4 ⟨rfl, hb4⟩)
    go_ret
    exact ⟨rfl, r2.trans (hb4.mono r2.size)⟩
end Go.Proofs.YthhpinohbjmhcaaDoor
