/- RangesNormal: the walk. -/
import Derived.Test.YthojbknakmjndaaGreatDoorRanAwake
import Derived.Test.YthojbknakmjndaaGreatDoorRanSame
import Derived.Test.YthojbknakmjndaaGreatDoorRanNorm3
import Derived.Test.YthojbknakmjndaaGreatDoorRanMath7
namespace Go.Proofs.YthojbknakmjndaaGreatDoor
open Go.RowKit
theorem same_own (v u : Value) (xs : List Bnd) (w : World) (hv : Bnds w v xs) (hlen : ∃ a cap, v = .slice a xs.length cap) (hu : Bnds w u xs) (hlen' : ∃ a cap, u = .slice a xs.length cap) (hn : xs.length ≤ 100000) :
    Calls Tryz.prog 12 #[v, u] w fun e w' => e = .returned (.bool true) ∧ Below w.heap.size w w' := by
  have := same_any v u xs xs w hv hlen hu hlen' hn
  rw [show sameB xs xs = true from decide_eq_true rfl] at this
  exact this
theorem normal_at (rs : List (Value × List Bnd)) (N : List Bnd) (hN : normalR (rs.map Prod.snd) = N) (hsz : ∀ r ∈ rs, ∀ x ∈ r.2, x.v.p.size ≤ 300) (w : World) (hE : Env w) (T : TypeId) (B n cap : Nat) (cs : Array Value) (hB : B = w.heap.size) (hcs : cs = (rs.map Prod.fst).toArray) (hn : n = rs.length) (h0 : 0 < rs.length) (hm : rs.length ≤ maxLen)
    (h : ∀ r ∈ rs, Bnds w r.1 r.2 ∧ ∃ a cap, r.1 = .slice a r.2.length cap) :
    Calls Tryz.prog 22 #[.slice (some ⟨B, 0, none⟩) n cap] (w.alloc (.cells cs T)) fun e w' => ∃ a c, e = .returned (.slice a N.length c) ∧ Bnds w' (.slice a N.length c) N ∧ Below w.heap.size w w' := by
  have hr := rngs_new w rs T cap B n cs hB hcs hn h0 hm h
  subst hn
  refine (normal_any _ rs _ (hE.alloc _) hr ⟨_, _, rfl⟩ hsz).mono ?_
  rintro e w' ⟨x, he, hx, ⟨a, c, rfl⟩, hb⟩
  rw [hN] at he hx
  exact ⟨a, c, he, hx, ((Below.refl w.heap.size w).alloc (Nat.le_refl _) _).trans (hb.mono (by simp))⟩
theorem range_sz {bs : List Bnd} (h : rangeOk bs = true) : ∀ x ∈ bs, x.v.p.size ≤ 300 := by
  intro x hx
  have := verOk_bounds (ok_parts ((rangeOk_all h).2 x hx)).2.2
  rw [Lib.size_eq]; omega
theorem err_ok {bs : List Bnd} : (rangeErr bs = 0 ∧ rangeOk bs = true) ∨ rangeErr bs = 50 := by
  unfold rangeErr
  cases rangeOk bs
  · right; rfl
  · left; exact ⟨rfl, rfl⟩
set_option maxRecDepth 100000 in
set_option maxHeartbeats 8000000 in
theorem rangesNormal_walk (va vb : Value) (a b : List Bnd) (w : World) (hE : Env w) (hva : Bnds w va a) (hla : ∃ p cap, va = .slice p a.length cap) (hpa : ∀ x ∈ a, x.v.p.size ≤ 9223372036854775807) (hvb : Bnds w vb b) (hlb : ∃ p cap, vb = .slice p b.length cap) (hpb : ∀ x ∈ b, x.v.p.size ≤ 9223372036854775807) :
    Calls Tryz.prog 8 #[va, vb] w fun e w' => e = .returned (.bool true) ∧ Below w.heap.size w w' := by
  have HE := Lib.hid hE
  have HA := Lib.hid hva
  have HB := Lib.hid hvb
  have HPa := Lib.hid hpa
  have HPb := Lib.hid hpb
  clear hE hva hvb hpa hpb
  obtain ⟨pa, ca, rfl⟩ := hla
  obtain ⟨pb, cb, rfl⟩ := hlb
  rcases err_ok (bs := a) with ⟨ea, oka⟩ | ea
  case inr =>
    have HRa := Lib.hid ea
    clear ea
    go_enter Tryz.func8, Tryz.ntmps8
    go_wp2_with fail
    refine (rcheck_as _ a 50 HRa.out _ HA.out ⟨_, _, rfl⟩ HE.out HPa.out).mono ?_
    rintro e w1 ⟨rfl, hb1⟩
    go_wp2_with fail
    refine (awake_any _ (HE.out.below hb1)).mono ?_
    rintro e w9 ⟨rfl, hb9⟩
    go_wp2_with fail
    go_ret
    exact ⟨rfl, below_then hb1 hb9⟩
  rcases err_ok (bs := b) with ⟨eb, okb⟩ | eb
  case inr =>
    have HRa := Lib.hid ea
    have HRb := Lib.hid eb
    clear ea eb oka
    go_enter Tryz.func8, Tryz.ntmps8
    go_wp2_with fail
    refine (rcheck_as _ a 0 HRa.out _ HA.out ⟨_, _, rfl⟩ HE.out HPa.out).mono ?_
    rintro e w1 ⟨rfl, hb1⟩
    go_wp2_with fail
    refine (rcheck_as _ b 50 HRb.out _ (HB.out.below hb1 (Nat.le_refl _)) ⟨_, _, rfl⟩ (HE.out.below hb1) HPb.out).mono ?_
    rintro e w2 ⟨rfl, hb2⟩
    have hb2 := below_then hb1 hb2
    go_wp2_with fail
    refine (awake_any _ (HE.out.below hb2)).mono ?_
    rintro e w9 ⟨rfl, hb9⟩
    go_wp2_with fail
    go_ret
    exact ⟨rfl, below_then hb2 hb9⟩
  have HRa := Lib.hid ea
  have HRb := Lib.hid eb
  have hoa := (rangeOk_all oka).2
  have hob := (rangeOk_all okb).2
  have hsa := range_sz oka
  have hsb := range_sz okb
  have n1 := normal_again [a, b]
  have n2 := normal_turn hoa hob
  have n3 := normal_more hoa hob
  have n4 := normal_ok hoa hob
  obtain ⟨N, hN⟩ : ∃ N, normalR [a, b] = N := ⟨_, rfl⟩
  rw [hN] at n1 n2 n3 n4
  have hon : rangeOk N = true := by
    rcases err_ok (bs := N) with ⟨_, h⟩ | h
    · exact h
    · rw [n4] at h; cases h
  have hsn := range_sz hon
  have hNl : N.length ≤ 100000 := by have := (rangeOk_all hon).1; omega
  have HPn : Hid (∀ x ∈ N, x.v.p.size ≤ 9223372036854775807) := fun x hx => by have := hsn x hx; omega
  have HN0 := Lib.hid hN
  have HN1 := Lib.hid n1
  have HN2 := Lib.hid n2
  have HN3 := Lib.hid n3
  have HN4 := Lib.hid n4
  have HSa := Lib.hid hsa
  have HSb := Lib.hid hsb
  have HSn := Lib.hid hsn
  clear ea eb oka okb hoa hob hsa hsb n1 n2 n3 n4 hN hon hsn
  go_enter Tryz.func8, Tryz.ntmps8
  go_wp2_with fail
  refine (rcheck_as _ a 0 HRa.out _ HA.out ⟨_, _, rfl⟩ HE.out HPa.out).mono ?_
  rintro e w1 ⟨rfl, hb1⟩
  have HA1 := Lib.hid (HA.out.below hb1 (Nat.le_refl _))
  have HB1 := Lib.hid (HB.out.below hb1 (Nat.le_refl _))
  go_wp2_with fail
  refine (rcheck_as _ b 0 HRb.out _ HB1.out ⟨_, _, rfl⟩ (HE.out.below hb1) HPb.out).mono ?_
  rintro e w2 ⟨rfl, hb2⟩
  have HA2 := Lib.hid (HA1.out.below hb2 (Nat.le_refl _))
  have HB2 := Lib.hid (HB1.out.below hb2 (Nat.le_refl _))
  have hb2 := below_then hb1 hb2
  go_wp2_with fail
  refine (normal_at [(.slice pa a.length ca, a), (.slice pb b.length cb, b)] N HN0.out (fun r hr => by
    simp at hr
    rcases hr with rfl | rfl
    · exact HSa.out
    · exact HSb.out) w2 (HE.out.below hb2) _ _ _ _ _ rfl rfl rfl (by simp) (by unfold maxLen; simp) (fun r hr => by
    simp at hr
    rcases hr with rfl | rfl
    · exact ⟨HA2.out, _, _, rfl⟩
    · exact ⟨HB2.out, _, _, rfl⟩)).mono ?_
  rintro e w3 ⟨xa, xc, rfl, hx, hb3⟩
  have HA3 := Lib.hid (HA2.out.below hb3 (Nat.le_refl _))
  have HB3 := Lib.hid (HB2.out.below hb3 (Nat.le_refl _))
  have HX3 := Lib.hid hx
  have hb3 := below_then hb2 hb3
  clear hx HA1 HB1 HA2 HB2
  go_wp2_with fail
  refine (normal_at [(.slice xa N.length xc, N)] N HN1.out (fun r hr => by
    simp at hr
    subst hr
    exact HSn.out) w3 (HE.out.below hb3) _ _ _ _ _ rfl rfl rfl (by simp) (by unfold maxLen; simp) (fun r hr => by
    simp at hr
    subst hr
    exact ⟨HX3.out, _, _, rfl⟩)).mono ?_
  rintro e w4 ⟨ya, yc, rfl, hy, hb4⟩
  have HA4 := Lib.hid (HA3.out.below hb4 (Nat.le_refl _))
  have HB4 := Lib.hid (HB3.out.below hb4 (Nat.le_refl _))
  have HX4 := Lib.hid (HX3.out.below hb4 (Nat.le_refl _))
  have HY4 := Lib.hid hy
  have hb4 := below_then hb3 hb4
  clear hy HA3 HB3 HX3
  go_wp2_with fail
  refine (same_own _ _ N _ HY4.out ⟨_, _, rfl⟩ HX4.out ⟨_, _, rfl⟩ hNl).mono ?_
  rintro e w5 ⟨rfl, hb5⟩
  have HA5 := Lib.hid (HA4.out.below hb5 (Nat.le_refl _))
  have HB5 := Lib.hid (HB4.out.below hb5 (Nat.le_refl _))
  have HX5 := Lib.hid (HX4.out.below hb5 (Nat.le_refl _))
  have hb5 := below_then hb4 hb5
  clear HA4 HB4 HX4 HY4
  go_wp2_with fail
  refine (normal_at [(.slice pb b.length cb, b), (.slice pa a.length ca, a)] N HN2.out (fun r hr => by
    simp at hr
    rcases hr with rfl | rfl
    · exact HSb.out
    · exact HSa.out) w5 (HE.out.below hb5) _ _ _ _ _ rfl rfl rfl (by simp) (by unfold maxLen; simp) (fun r hr => by
    simp at hr
    rcases hr with rfl | rfl
    · exact ⟨HB5.out, _, _, rfl⟩
    · exact ⟨HA5.out, _, _, rfl⟩)).mono ?_
  rintro e w6 ⟨za, zc, rfl, hz, hb6⟩
  have HA6 := Lib.hid (HA5.out.below hb6 (Nat.le_refl _))
  have HB6 := Lib.hid (HB5.out.below hb6 (Nat.le_refl _))
  have HX6 := Lib.hid (HX5.out.below hb6 (Nat.le_refl _))
  have HZ6 := Lib.hid hz
  have hb6 := below_then hb5 hb6
  clear hz HA5 HB5 HX5
  go_wp2_with fail
  refine (same_own _ _ N _ HZ6.out ⟨_, _, rfl⟩ HX6.out ⟨_, _, rfl⟩ hNl).mono ?_
  rintro e w7 ⟨rfl, hb7⟩
  have HA7 := Lib.hid (HA6.out.below hb7 (Nat.le_refl _))
  have HB7 := Lib.hid (HB6.out.below hb7 (Nat.le_refl _))
  have HX7 := Lib.hid (HX6.out.below hb7 (Nat.le_refl _))
  have hb7 := below_then hb6 hb7
  clear HA6 HB6 HX6 HZ6
  go_wp2_with fail
  refine (normal_at [(.slice xa N.length xc, N), (.slice pa a.length ca, a), (.slice pb b.length cb, b), (.slice xa N.length xc, N)] N HN3.out (fun r hr => by
    simp at hr
    rcases hr with rfl | rfl | rfl | rfl
    · exact HSn.out
    · exact HSa.out
    · exact HSb.out
    · exact HSn.out) w7 (HE.out.below hb7) _ _ _ _ _ rfl rfl rfl (by simp) (by unfold maxLen; simp) (fun r hr => by
    simp at hr
    rcases hr with rfl | rfl | rfl | rfl
    · exact ⟨HX7.out, _, _, rfl⟩
    · exact ⟨HA7.out, _, _, rfl⟩
    · exact ⟨HB7.out, _, _, rfl⟩
    · exact ⟨HX7.out, _, _, rfl⟩)).mono ?_
  rintro e w8 ⟨ua, uc, rfl, hu, hb8⟩
  have HX8 := Lib.hid (HX7.out.below hb8 (Nat.le_refl _))
  have HU8 := Lib.hid hu
  have hb8 := below_then hb7 hb8
  clear hu HA7 HB7 HX7
  go_wp2_with fail
  refine (same_own _ _ N _ HU8.out ⟨_, _, rfl⟩ HX8.out ⟨_, _, rfl⟩ hNl).mono ?_
  rintro e w9 ⟨rfl, hb9⟩
  have HX9 := Lib.hid (HX8.out.below hb9 (Nat.le_refl _))
  have hb9 := below_then hb8 hb9
  go_wp2_with fail
  refine (rcheck_as _ N 0 HN4.out _ HX9.out ⟨_, _, rfl⟩ (HE.out.below hb9) HPn.out).mono ?_
  rintro e w10 ⟨rfl, hb10⟩
  have hb10 := below_then hb9 hb10
  go_wp2_with fail
  refine (awake_any _ (HE.out.below hb10)).mono ?_
  rintro e w11 ⟨rfl, hb11⟩
  go_wp2_with fail
  go_ret
  exact ⟨rfl, below_then hb10 hb11⟩
end Go.Proofs.YthojbknakmjndaaGreatDoor
