/- RangesParses, RangesShows: the walks. -/
import Derived.Test.YthojbknakmjndaaGreatDoorRanRef6
import Derived.Test.YthojbknakmjndaaGreatDoorRanAwake
import Derived.Test.YthojbknakmjndaaGreatDoorRanSame
import Derived.Test.YthojbknakmjndaaGreatDoorRanLight
namespace Go.Proofs.YthojbknakmjndaaGreatDoor
open Go.RowKit
theorem same_self (v u : Value) (xs : List Bnd) (w : World) (hv : Bnds w v xs) (hlen : ∃ a cap, v = .slice a xs.length cap) (hu : Bnds w u xs) (hlen' : ∃ a cap, u = .slice a xs.length cap) (hn : xs.length ≤ 100000) :
    Calls Tryz.prog 12 #[v, u] w fun e w' => e = .returned (.bool true) ∧ Below w.heap.size w w' := by
  have := same_any v u xs xs w hv hlen hu hlen' hn
  rw [show sameB xs xs = true from decide_eq_true rfl] at this
  exact this
theorem near_le (v : V4) : (near v).length ≤ 2 := by
  unfold near
  split <;> simp
theorem parsed_len {l : List UInt8} {bs : List Bnd} {er : Int} (h : RParseIs l bs er) : bs.length ≤ 100000 := by
  rcases h with ⟨_, ⟨_, h⟩ | ⟨r, v, _, _, h⟩ | ⟨_, h, _⟩⟩ | ⟨_, h, _⟩
  · rw [h]; decide
  · rw [h]; have := near_le v; omega
  · have := (rangeOk_all h).1; omega
  · rw [h]; decide
set_option maxRecDepth 100000 in
set_option maxHeartbeats 4000000 in
theorem rangesParses_walk (s : ByteArray) (w : World) (hE : Env w) :
    Calls Tryz.prog 3 #[.string s] w fun e w' => e = .returned (.bool true) ∧ Below w.heap.size w w' := by
  have HE := Lib.hid hE
  clear hE
  by_cases hbig : 5000 < s.size
  · have q : decide (5000 < (s.size : Int)) = true := by simp; omega
    clear hbig
    go_enter Tryz.func3, Tryz.ntmps3
    go_wp2_with fail
    refine (awake_any _ HE.out).mono ?_
    rintro e w9 ⟨rfl, hb9⟩
    go_wp2_with fail
    go_ret
    exact ⟨rfl, hb9⟩
  have q : decide (5000 < (s.size : Int)) = false := by simp; omega
  have hs5 : s.size ≤ 5000 := by omega
  clear hbig
  go_enter Tryz.func3, Tryz.ntmps3
  go_wp2_with fail
  refine (rparse_any s _ HE.out (by omega)).mono ?_
  rintro e w1 ⟨x, bs, er, rfl, hx, ⟨xa, xcap, rfl⟩, hp, hb1⟩
  have HX := Lib.hid hx
  have HP := Lib.hid hp
  clear hx hp
  go_wp2_with fail
  refine (refRParse_any s _ (by omega)).mono ?_
  rintro e w2 ⟨y, cs, er2, rfl, hy, ⟨ya, ycap, rfl⟩, hp2, hb2⟩
  obtain ⟨rfl, rfl⟩ := RParseIs.uniq hp2 HP.out
  have HX := Lib.hid (HX.out.below hb2 (Nat.le_refl _))
  have HY := Lib.hid hy
  have hb2 := below_then hb1 hb2
  clear hy hp2
  go_wp2_with fail
  refine (same_self _ _ cs _ HX.out ⟨_, _, rfl⟩ HY.out ⟨_, _, rfl⟩ (parsed_len HP.out)).mono ?_
  rintro e w3 ⟨rfl, hb3⟩
  have hb3 := below_then hb2 hb3
  go_wp2_with fail
  refine (awake_any _ (HE.out.below hb3)).mono ?_
  rintro e w9 ⟨rfl, hb9⟩
  go_wp2_with fail
  go_ret
  exact ⟨rfl, below_then hb3 hb9⟩
set_option maxRecDepth 100000 in
set_option maxHeartbeats 4000000 in
theorem rangesShows_walk (v : Value) (bs : List Bnd) (w : World) (hE : Env w) (hv : Bnds w v bs) (hlen : ∃ a cap, v = .slice a bs.length cap) (hp : ∀ x ∈ bs, x.v.p.size ≤ 9223372036854775807) :
    Calls Tryz.prog 4 #[v] w fun e w' => e = .returned (.bool true) ∧ Below w.heap.size w w' := by
  have HE := Lib.hid hE
  have HV := Lib.hid hv
  have HP := Lib.hid hp
  clear hE hv hp
  obtain ⟨va, vcap, rfl⟩ := hlen
  obtain ⟨r, hr⟩ : ∃ r, lightB [bs] = r := ⟨_, rfl⟩
  have HR := Lib.hid hr
  clear hr
  cases r
  · go_enter Tryz.func4, Tryz.ntmps4
    go_wp2_with fail
    refine (light_one _ bs false HR.out _ _ _ _ _ _ rfl rfl rfl HV.out ⟨_, _, rfl⟩).mono ?_
    rintro e w1 ⟨rfl, rfl⟩
    go_wp2_with fail
    refine (awake_any _ (HE.out.alloc _)).mono ?_
    rintro e w9 ⟨rfl, hb9⟩
    go_wp2_with fail
    go_ret
    exact ⟨rfl, below_first (box_of hb9)⟩
  by_cases hok : rangeOk bs = true
  · have HO := Lib.hid hok
    have HRe : Hid (rangeErr bs = 0) := by show _ = _; unfold rangeErr; rw [if_pos hok]
    obtain ⟨T, hT⟩ : ∃ T, S (showR bs) = T := ⟨_, rfl⟩
    have H1 := fun w hv hE => rshow_yes (.slice va bs.length vcap) bs w hv ⟨_, _, rfl⟩ hE HP.out HO.out
    have H2 := fun w hv => rrshow_yes (.slice va bs.length vcap) bs w hv ⟨_, _, rfl⟩ HP.out HO.out
    rw [hT] at H1 H2
    have H1 := Lib.hid H1
    have H2 := Lib.hid H2
    clear hT hok
    go_enter Tryz.func4, Tryz.ntmps4
    go_wp2_with fail
    refine (light_one _ bs true HR.out _ _ _ _ _ _ rfl rfl rfl HV.out ⟨_, _, rfl⟩).mono ?_
    rintro e w1 ⟨rfl, rfl⟩
    have hb1 := (Below.refl w.heap.size w).alloc (Nat.le_refl _) (.cells #[.slice va bs.length vcap] 23)
    have HV := Lib.hid (HV.out.below hb1 (Nat.le_refl _))
    go_wp2_with fail
    refine (H1.out _ HV.out (HE.out.below hb1)).mono ?_
    rintro e w2 ⟨rfl, hb2⟩
    have HV := Lib.hid (HV.out.below hb2 (Nat.le_refl _))
    have hb2 := below_then hb1 hb2
    go_wp2_with fail
    refine (H2.out _ HV.out).mono ?_
    rintro e w3 ⟨rfl, hb3⟩
    have HV := Lib.hid (HV.out.below hb3 (Nat.le_refl _))
    have hb3 := below_then hb2 hb3
    go_wp2_with fail
    refine (rcheck_as _ bs 0 HRe.out _ HV.out ⟨_, _, rfl⟩ (HE.out.below hb3) HP.out).mono ?_
    rintro e w4 ⟨rfl, hb4⟩
    have HV := Lib.hid (HV.out.below hb4 (Nat.le_refl _))
    have hb4 := below_then hb3 hb4
    go_wp2_with fail
    refine (rrcheck_as _ bs 0 HRe.out _ HV.out ⟨_, _, rfl⟩ HP.out).mono ?_
    rintro e w5 ⟨rfl, hb5⟩
    have hb5 := below_then hb4 hb5
    go_wp2_with fail
    refine (awake_any _ (HE.out.below hb5)).mono ?_
    rintro e w9 ⟨rfl, hb9⟩
    go_wp2_with fail
    go_ret
    exact ⟨rfl, below_then hb5 hb9⟩
  · have HRe : Hid (rangeErr bs = 50) := by show _ = _; unfold rangeErr; rw [if_neg hok]
    clear hok
    go_enter Tryz.func4, Tryz.ntmps4
    go_wp2_with fail
    refine (light_one _ bs true HR.out _ _ _ _ _ _ rfl rfl rfl HV.out ⟨_, _, rfl⟩).mono ?_
    rintro e w1 ⟨rfl, rfl⟩
    have hb1 := (Below.refl w.heap.size w).alloc (Nat.le_refl _) (.cells #[.slice va bs.length vcap] 23)
    have HV := Lib.hid (HV.out.below hb1 (Nat.le_refl _))
    go_wp2_with fail
    refine (rshow_no _ bs _ HV.out ⟨_, _, rfl⟩ (HE.out.below hb1) HP.out HRe.out).mono ?_
    rintro e w2 ⟨rfl, hb2⟩
    have HV := Lib.hid (HV.out.below hb2 (Nat.le_refl _))
    have hb2 := below_then hb1 hb2
    go_wp2_with fail
    refine (rrshow_no _ bs _ HV.out ⟨_, _, rfl⟩ HP.out HRe.out).mono ?_
    rintro e w3 ⟨rfl, hb3⟩
    have HV := Lib.hid (HV.out.below hb3 (Nat.le_refl _))
    have hb3 := below_then hb2 hb3
    go_wp2_with fail
    refine (rcheck_as _ bs 50 HRe.out _ HV.out ⟨_, _, rfl⟩ (HE.out.below hb3) HP.out).mono ?_
    rintro e w4 ⟨rfl, hb4⟩
    have HV := Lib.hid (HV.out.below hb4 (Nat.le_refl _))
    have hb4 := below_then hb3 hb4
    go_wp2_with fail
    refine (rrcheck_as _ bs 50 HRe.out _ HV.out ⟨_, _, rfl⟩ HP.out).mono ?_
    rintro e w5 ⟨rfl, hb5⟩
    have hb5 := below_then hb4 hb5
    go_wp2_with fail
    refine (awake_any _ (HE.out.below hb5)).mono ?_
    rintro e w9 ⟨rfl, hb9⟩
    go_wp2_with fail
    go_ret
    exact ⟨rfl, below_then hb5 hb9⟩
end Go.Proofs.YthojbknakmjndaaGreatDoor
