/- RangesBoth: the walk. -/
import Derived.Test.YthojbknakmjndaaGreatDoorRanLaw6
import Derived.Test.YthojbknakmjndaaGreatDoorRanNorm3
import Derived.Test.YthojbknakmjndaaGreatDoorRanMath5
namespace Go
open Go.RowKit
theorem norm_len2 (all : List (List Bnd)) : (normalR all).length ≤ 2 := by
  unfold normalR normalE
  split
  · split <;> simp
  · split
    · simp
    · split
      · simp
      · split <;> simp
theorem normal_sz (all : List (List Bnd)) (h : ∀ bs ∈ all, ∀ b ∈ bs, b.v.p.size ≤ 300) : ∀ b ∈ normalR all, b.v.p.size ≤ 300 := by
  have hs := step_sz (P := fun v => v.p.size ≤ 300) (by decide) (by decide) all.flatten (fun b hb => by
    rw [List.mem_flatten] at hb
    obtain ⟨l, hl, hb⟩ := hb
    exact h l hl b hb)
  have hn : Bnd.nothing.v.p.size ≤ 300 := by decide
  intro b hb
  unfold normalR normalE at hb
  split at hb
  · split at hb
    · cases hb
    · simp at hb; subst hb; exact hs.2
  · split at hb
    · simp at hb; subst hb; exact hs.1
    · split at hb
      · simp at hb; subst hb; exact hs.1
      · split at hb
        · simp at hb; subst hb; exact hn
        · simp at hb; rcases hb with rfl | rfl
          · exact hs.1
          · exact hs.2
end Go
namespace Go.Proofs.YthojbknakmjndaaGreatDoor
open Go.RowKit
theorem rngs_two (w : World) (x y : Value) (a b : List Bnd) (T : TypeId) (B n cap : Nat) (cs : Array Value) (hB : B = w.heap.size) (hcs : cs = #[x, y]) (hn : n = 2) (hx : Bnds w x a) (hlx : ∃ p cap, x = .slice p a.length cap) (hy : Bnds w y b) (hly : ∃ p cap, y = .slice p b.length cap) :
    Rngs (w.alloc (.cells cs T)) (.slice (some ⟨B, 0, none⟩) n cap) [(x, a), (y, b)] := by
  subst hn
  exact rngs_new w [(x, a), (y, b)] T cap B 2 cs hB (by rw [hcs]; rfl) rfl (by simp) (by unfold maxLen; simp) (fun r hr => by
    simp at hr
    rcases hr with rfl | rfl
    · exact ⟨hx, hlx⟩
    · exact ⟨hy, hly⟩)
theorem meetsQ_as (x : V4) (v : Value) (bs : List Bnd) (r : Bool) (h : meetsR x bs = r) (w : World) (hE : Env w) (hv : Bnds w v bs) (hlen : ∃ a cap, v = .slice a bs.length cap) (hx : x.p.size ≤ 300) (hp : ∀ b ∈ bs, b.v.p.size ≤ 300) (hn : bs.length ≤ 1000) :
    Calls Tryz.prog 18 #[.agg #[.int .i64 x.a, .int .i64 x.b, .int .i64 x.c, .string x.p], v] w fun e w' => e = .returned (.bool r) ∧ Below w.heap.size w w' := by
  subst h; exact meets_any x v bs w hv hlen hE hx hp hn
set_option maxRecDepth 100000 in
set_option maxHeartbeats 8000000 in
theorem rangesBoth_walk (x : V4) (va vb : Value) (a b : List Bnd) (w : World) (hE : Env w) (hva : Bnds w va a) (hla : ∃ p cap, va = .slice p a.length cap) (hvb : Bnds w vb b) (hlb : ∃ p cap, vb = .slice p b.length cap) (hx : x.p.size ≤ 9223372036854775807) :
    Calls Tryz.prog 7 #[.agg #[.int .i64 x.a, .int .i64 x.b, .int .i64 x.c, .string x.p], va, vb] w fun e w' => e = .returned (.bool true) ∧ Below w.heap.size w w' := by
  have HE := Lib.hid hE
  clear hE
  obtain ⟨pa, ca, rfl⟩ := hla
  obtain ⟨pb, cb, rfl⟩ := hlb
  have hW0 := (Below.refl w.heap.size w).alloc (Nat.le_refl _) (.cells #[.int .i64 x.a, .int .i64 x.b, .int .i64 x.c, .string x.p] 40)
  have HA := Lib.hid hva
  have HB := Lib.hid hvb
  have HA1 := Lib.hid (HA.out.below hW0 (Nat.le_refl _))
  have HB1 := Lib.hid (HB.out.below hW0 (Nat.le_refl _))
  obtain ⟨r, hr⟩ : ∃ r, lightB [a, b] = r := ⟨_, rfl⟩
  have HR := Lib.hid hr
  clear hr hva hvb
  obtain ⟨xa, xb, xc, xp⟩ := x
  simp only at hx hW0 HA1 HB1 ⊢
  have hW1 := hW0.alloc hW0.size (.cells #[.slice pa a.length ca, .slice pb b.length cb] 23)
  have HRg := Lib.hid (rngs_two (w.alloc (.cells #[.int .i64 xa, .int .i64 xb, .int .i64 xc, .string xp] 40)) (.slice pa a.length ca) (.slice pb b.length cb) a b 23 _ 2 2 _ rfl rfl rfl HA1.out ⟨_, _, rfl⟩ HB1.out ⟨_, _, rfl⟩)
  simp only [World.size_alloc] at HRg
  have k0 : ((w.alloc (.cells #[.int .i64 xa, .int .i64 xb, .int .i64 xc, .string xp] 40)).alloc (.cells #[.slice pa a.length ca, .slice pb b.length cb] 23)).cell? ⟨w.heap.size, 0, none⟩ = some (.int .i64 xa) := by go_simp
  have k1 : ((w.alloc (.cells #[.int .i64 xa, .int .i64 xb, .int .i64 xc, .string xp] 40)).alloc (.cells #[.slice pa a.length ca, .slice pb b.length cb] 23)).cell? ⟨w.heap.size, 1, none⟩ = some (.int .i64 xb) := by go_simp
  have k2 : ((w.alloc (.cells #[.int .i64 xa, .int .i64 xb, .int .i64 xc, .string xp] 40)).alloc (.cells #[.slice pa a.length ca, .slice pb b.length cb] 23)).cell? ⟨w.heap.size, 2, none⟩ = some (.int .i64 xc) := by go_simp
  have k3 : ((w.alloc (.cells #[.int .i64 xa, .int .i64 xb, .int .i64 xc, .string xp] 40)).alloc (.cells #[.slice pa a.length ca, .slice pb b.length cb] 23)).cell? ⟨w.heap.size, 3, none⟩ = some (.string xp) := by go_simp
  cases r
  · go_enter Tryz.func7, Tryz.ntmps7
    go_wp2_with fail
    refine (light_as _ [(.slice pa a.length ca, a), (.slice pb b.length cb, b)] false HR.out _ HRg.out ⟨_, _, rfl⟩).mono ?_
    rintro e w1 ⟨rfl, rfl⟩
    go_wp2_with fail
    refine (awake_any _ (HE.out.below hW1)).mono ?_
    rintro e w9 ⟨rfl, hb9⟩
    go_wp2_with fail
    go_ret
    exact ⟨rfl, below_then hW1 hb9⟩
  by_cases hok : (⟨xa, xb, xc, xp⟩ : V4).ok = true
  case neg =>
    have HV : Hid (verErr xa xb xc xp.data.toList = 40) := by show _ = _; exact (V4.ok_err (v := ⟨xa, xb, xc, xp⟩)).trans (if_neg hok)
    clear hok
    go_enter Tryz.func7, Tryz.ntmps7
    go_wp2_with fail
    refine (light_as _ [(.slice pa a.length ca, a), (.slice pb b.length cb, b)] true HR.out _ HRg.out ⟨_, _, rfl⟩).mono ?_
    rintro e w1 ⟨rfl, rfl⟩
    go_wp2_with fail
    refine (checkQ_as ⟨xa, xb, xc, xp⟩ 40 HV.out _ (HE.out.below hW1) hx).mono ?_
    rintro e w2 ⟨rfl, hb2⟩
    have hW2 := below_then hW1 hb2
    go_wp2_with fail
    refine (awake_any _ (HE.out.below hW2)).mono ?_
    rintro e w9 ⟨rfl, hb9⟩
    go_wp2_with fail
    go_ret
    exact ⟨rfl, below_then hW2 hb9⟩
  have HV : Hid (verErr xa xb xc xp.data.toList = 0) := by show _ = _; exact (V4.ok_err (v := ⟨xa, xb, xc, xp⟩)).trans (if_pos hok)
  have hx3 : xp.size ≤ 300 := by have := verOk_bounds hok; rw [Lib.size_eq]; simp only at this; omega
  have hsz := lightB_sz HR.out
  have ha := hsz.2 a (by simp)
  have hb := hsz.2 b (by simp)
  have hpa : ∀ z ∈ a, z.v.p.size ≤ 300 := fun z hz => by have := ha.2 z hz; omega
  have hpb : ∀ z ∈ b, z.v.p.size ≤ 300 := fun z hz => by have := hb.2 z hz; omega
  have hna : a.length ≤ 1000 := by omega
  have hnb : b.length ≤ 1000 := by omega
  have hbm := both_meets hok a b
  obtain ⟨ma, hma⟩ : ∃ m, meetsR ⟨xa, xb, xc, xp⟩ a = m := ⟨_, rfl⟩
  obtain ⟨mb, hmb⟩ : ∃ m, meetsR ⟨xa, xb, xc, xp⟩ b = m := ⟨_, rfl⟩
  have hpn := normal_sz [a, b] (fun bs hbs => by
    simp at hbs
    rcases hbs with rfl | rfl
    · exact hpa
    · exact hpb)
  have hnl := norm_len2 [a, b]
  rw [hma, hmb] at hbm
  have C1 := fun (w : World) hE hv => normal_any (.slice (some ⟨w.heap.size, 0, none⟩) 2 2) [(.slice pa a.length ca, a), (.slice pb b.length cb, b)] (w.alloc (.cells #[.slice pa a.length ca, .slice pb b.length cb] 23)) hE hv ⟨_, _, rfl⟩ (fun r hr => by
    simp at hr
    rcases hr with rfl | rfl
    · exact hpa
    · exact hpb)
  simp only [List.map_cons, List.map_nil] at C1
  obtain ⟨N, hN⟩ : ∃ N, normalR [a, b] = N := ⟨_, rfl⟩
  rw [hN] at hbm hpn hnl C1
  have HC1 := Lib.hid C1
  have M1 := Lib.hid (fun w v (hE : Env w) hv hl => meetsQ_as ⟨xa, xb, xc, xp⟩ v N (ma && mb) hbm w hE hv hl hx3 hpn (by omega))
  have M2 := Lib.hid (fun w (hE : Env w) hv => meetsQ_as ⟨xa, xb, xc, xp⟩ (.slice pa a.length ca) a ma hma w hE hv ⟨_, _, rfl⟩ hx3 hpa hna)
  have M3 := Lib.hid (fun w (hE : Env w) hv => meetsQ_as ⟨xa, xb, xc, xp⟩ (.slice pb b.length cb) b mb hmb w hE hv ⟨_, _, rfl⟩ hx3 hpb hnb)
  have q2 : decide (N.length ≤ 2) = true := decide_eq_true hnl
  have q2' : decide ((N.length : Int) ≤ 2) = true := by simp; omega
  clear hok hsz ha hb hpa hpb hna hnb hbm hma hmb hpn hnl C1 hN
  go_enter Tryz.func7, Tryz.ntmps7
  go_wp2_with fail
  refine (light_as _ [(.slice pa a.length ca, a), (.slice pb b.length cb, b)] true HR.out _ HRg.out ⟨_, _, rfl⟩).mono ?_
  rintro e w1 ⟨rfl, rfl⟩
  go_wp2_with fail
  refine (checkQ_as ⟨xa, xb, xc, xp⟩ 0 HV.out _ (HE.out.below hW1) hx).mono ?_
  rintro e w2 ⟨rfl, hb2⟩
  have c0 := (hb2.cell (p := ⟨w.heap.size, 0, none⟩) (cell_lt k0)).trans k0
  have c1 := (hb2.cell (p := ⟨w.heap.size, 1, none⟩) (cell_lt k1)).trans k1
  have c2 := (hb2.cell (p := ⟨w.heap.size, 2, none⟩) (cell_lt k2)).trans k2
  have c3 := (hb2.cell (p := ⟨w.heap.size, 3, none⟩) (cell_lt k3)).trans k3
  have hW2 := below_then hW1 hb2
  clear k0 k1 k2 k3 HRg hb2 HA1 HB1 hW0
  go_wp2_with fail
  refine (HC1.out w2 (HE.out.below (hW2.alloc hW2.size _)) (rngs_two w2 _ _ a b _ _ _ _ _ rfl rfl rfl (HA.out.below hW2 (Nat.le_refl _)) ⟨_, _, rfl⟩ (HB.out.below hW2 (Nat.le_refl _)) ⟨_, _, rfl⟩)).mono ?_
  rintro e w3 ⟨y, rfl, hy, ⟨ya, ycap, rfl⟩, hb3⟩
  have hb3 := ((Below.refl w2.heap.size w2).alloc (Nat.le_refl _) (.cells #[.slice pa a.length ca, .slice pb b.length cb] 23)).trans (hb3.mono (by simp))
  have c0 := (hb3.cell (p := ⟨w.heap.size, 0, none⟩) (cell_lt c0)).trans c0
  have c1 := (hb3.cell (p := ⟨w.heap.size, 1, none⟩) (cell_lt c1)).trans c1
  have c2 := (hb3.cell (p := ⟨w.heap.size, 2, none⟩) (cell_lt c2)).trans c2
  have c3 := (hb3.cell (p := ⟨w.heap.size, 3, none⟩) (cell_lt c3)).trans c3
  have hW3 := below_then hW2 hb3
  have HY := Lib.hid hy
  have HA3 := Lib.hid (HA.out.below hW3 (Nat.le_refl _))
  have HB3 := Lib.hid (HB.out.below hW3 (Nat.le_refl _))
  have HE3 := Lib.hid (HE.out.below hW3)
  clear hb3 hy HA HB HC1 hx
  cases ma
  · go_wp2_with fail
    have hd0 := (Below.refl w3.heap.size w3).drew
    refine wp_region_held_drew (S := (fun w' => w'.cell? ⟨w.heap.size, 0, none⟩ = some (.int .i64 xa) ∧ w'.cell? ⟨w.heap.size, 1, none⟩ = some (.int .i64 xb) ∧ w'.cell? ⟨w.heap.size, 2, none⟩ = some (.int .i64 xc) ∧ w'.cell? ⟨w.heap.size, 3, none⟩ = some (.string xp) ∧ Below w3.heap.size w3 w')) (by kernel_rfl) (⟨c0, c1, c2, c3, hd0⟩) (fun hHeld => ?_)
    refine wpAnyH_take (i := 0) (v := ?_) rfl (by kernel_rfl) (by kernel_rfl) (by kernel_rfl) (fun _ _ _ h => h) (Or.inl ⟨by rfl, ?_⟩) (by assumption) ?_
    rotate_left
    · (intro W hSw; (try dsimp only at hSw); go_simp; (try with_reducible rfl))
    (try simp only [Act.put]); (try simp only [List.setIfInBounds_toArray]); (try simp only [List.set_cons_succ]); (try simp only [List.set_cons_zero])
    refine wpAnyH_take (i := 1) (v := ?_) rfl (by kernel_rfl) (by kernel_rfl) (by kernel_rfl) (fun _ _ _ h => h) (Or.inl ⟨by rfl, ?_⟩) (by assumption) ?_
    rotate_left
    · (intro W hSw; (try dsimp only at hSw); go_simp; (try with_reducible rfl))
    (try simp only [Act.put]); (try simp only [List.setIfInBounds_toArray]); (try simp only [List.set_cons_succ]); (try simp only [List.set_cons_zero])
    refine wpAnyH_take (i := 3) (v := ?_) rfl (by kernel_rfl) (by kernel_rfl) (by kernel_rfl) (fun _ _ _ h => h) (Or.inl ⟨by rfl, ?_⟩) (by assumption) ?_
    rotate_left
    · (intro W hSw; (try dsimp only at hSw); go_simp; (try with_reducible rfl))
    (try simp only [Act.put]); (try simp only [List.setIfInBounds_toArray]); (try simp only [List.set_cons_succ]); (try simp only [List.set_cons_zero])
    refine wpAnyH_take (i := 4) (v := ?_) rfl (by kernel_rfl) (by kernel_rfl) (by kernel_rfl) (fun _ _ _ h => h) (Or.inl ⟨by rfl, ?_⟩) (by assumption) ?_
    rotate_left
    · (intro W hSw; (try dsimp only at hSw); go_simp; (try with_reducible rfl))
    (try simp only [Act.put]); (try simp only [List.setIfInBounds_toArray]); (try simp only [List.set_cons_succ]); (try simp only [List.set_cons_zero])
    refine wpAnyH_ready (rs := [2]) (by kernel_rfl) (by simp) ?_
    refine AllReadyH.cons rfl (fun K hK => ?_) AllReadyH.nil
    go_simp
    refine (keepB4 w3 _ w.heap.size _ _ _ _ hHeld (M1.out _ _ (HE3.out.below hHeld.2.2.2.2) (HY.out.below hHeld.2.2.2.2 (Nat.le_refl _)) ⟨_, _, rfl⟩)).mono ?_
    rintro e w4 ⟨rfl, hb4, hk4⟩
    refine hK.out _ _ (hk4) (fun hHeld => ?_)
    clear hK K
    (try simp only [Act.put]); (try simp only [List.setIfInBounds_toArray]); (try simp only [List.set_cons_succ]); (try simp only [List.set_cons_zero])
    refine wpAnyH_ready (rs := [5]) (by kernel_rfl) (by simp) ?_
    refine AllReadyH.cons rfl (fun K hK => ?_) AllReadyH.nil
    go_simp
    refine (keepB4 w3 _ w.heap.size _ _ _ _ hHeld (M2.out _ (HE3.out.below hHeld.2.2.2.2) (HA3.out.below hHeld.2.2.2.2 (Nat.le_refl _)))).mono ?_
    rintro e w5 ⟨rfl, hb5, hk5⟩
    refine hK.out _ _ (hk5) (fun hHeld => ?_)
    clear hK K
    (try simp only [Act.put]); (try simp only [List.setIfInBounds_toArray]); (try simp only [List.set_cons_succ]); (try simp only [List.set_cons_zero])
    refine wpAnyH_take (i := 6) (v := ?_) rfl (by kernel_rfl) (by kernel_rfl) (by kernel_rfl) (fun _ _ _ h => h) (Or.inl ⟨by rfl, ?_⟩) (by assumption) ?_
    rotate_left
    · (intro W hSw; (try dsimp only at hSw); go_simp; (try with_reducible rfl))
    (try simp only [Act.put]); (try simp only [List.setIfInBounds_toArray]); (try simp only [List.set_cons_succ]); (try simp only [List.set_cons_zero])
    refine wpAnyH_take (i := 7) (v := undef) rfl (by kernel_rfl) (by kernel_rfl) (by kernel_rfl) (fun _ _ _ h => h) (Or.inr ⟨by rfl, rfl⟩) (by assumption) ?_
    (try simp only [Act.put]); (try simp only [List.setIfInBounds_toArray]); (try simp only [List.set_cons_succ]); (try simp only [List.set_cons_zero])
    refine wpAnyH_take (i := 8) (v := undef) rfl (by kernel_rfl) (by kernel_rfl) (by kernel_rfl) (fun _ _ _ h => h) (Or.inr ⟨by rfl, rfl⟩) (by assumption) ?_
    (try simp only [Act.put]); (try simp only [List.setIfInBounds_toArray]); (try simp only [List.set_cons_succ]); (try simp only [List.set_cons_zero])
    refine wpAnyH_ready (rs := [9]) (by kernel_rfl) (by simp) ?_
    refine AllReadyH.cons rfl (fun K hK => ?_) AllReadyH.nil
    go_simp
    refine hK.out _ _ (hHeld) (fun hHeld => ?_)
    clear hK K
    (try simp only [Act.put]); (try simp only [List.setIfInBounds_toArray]); (try simp only [List.set_cons_succ]); (try simp only [List.set_cons_zero])
    refine wpAnyH_take (i := 10) (v := ?_) rfl (by kernel_rfl) (by kernel_rfl) (by kernel_rfl) (fun _ _ _ h => h) (Or.inl ⟨by rfl, ?_⟩) (by assumption) ?_
    rotate_left
    · (intro W hSw; (try dsimp only at hSw); go_simp; (try with_reducible rfl))
    (try simp only [Act.put]); (try simp only [List.setIfInBounds_toArray]); (try simp only [List.set_cons_succ]); (try simp only [List.set_cons_zero])
    refine wpAnyH_take (i := 11) (v := ?_) rfl (by kernel_rfl) (by kernel_rfl) (by kernel_rfl) (fun _ _ _ h => h) (Or.inl ⟨by rfl, ?_⟩) (by assumption) ?_
    rotate_left
    · (intro W hSw; (try dsimp only at hSw); go_simp; (try with_reducible rfl))
    (try simp only [Act.put]); (try simp only [List.setIfInBounds_toArray]); (try simp only [List.set_cons_succ]); (try simp only [List.set_cons_zero])
    refine wpAnyH_take (i := 12) (v := ?_) rfl (by kernel_rfl) (by kernel_rfl) (by kernel_rfl) (fun _ _ _ h => h) (Or.inl ⟨by rfl, ?_⟩) (by assumption) ?_
    rotate_left
    · (intro W hSw; (try dsimp only at hSw); go_simp; (try with_reducible rfl))
    (try simp only [Act.put]); (try simp only [List.setIfInBounds_toArray]); (try simp only [List.set_cons_succ]); (try simp only [List.set_cons_zero])
    refine wpAnyH_take (i := 13) (v := ?_) rfl (by kernel_rfl) (by kernel_rfl) (by kernel_rfl) (fun _ _ _ h => h) (Or.inl ⟨by rfl, ?_⟩) (by assumption) ?_
    rotate_left
    · (intro W hSw; (try dsimp only at hSw); go_simp; (try with_reducible rfl))
    (try simp only [Act.put]); (try simp only [List.setIfInBounds_toArray]); (try simp only [List.set_cons_succ]); (try simp only [List.set_cons_zero])
    refine wpAnyH_take (i := 14) (v := ?_) rfl (by kernel_rfl) (by kernel_rfl) (by kernel_rfl) (fun _ _ _ h => h) (Or.inl ⟨by rfl, ?_⟩) (by assumption) ?_
    rotate_left
    · (intro W hSw; (try dsimp only at hSw); go_simp; (try with_reducible rfl))
    (try simp only [Act.put]); (try simp only [List.setIfInBounds_toArray]); (try simp only [List.set_cons_succ]); (try simp only [List.set_cons_zero])
    refine wpAnyH_take (i := 15) (v := ?_) rfl (by kernel_rfl) (by kernel_rfl) (by kernel_rfl) (fun _ _ _ h => h) (Or.inl ⟨by rfl, ?_⟩) (by assumption) ?_
    rotate_left
    · (intro W hSw; (try dsimp only at hSw); go_simp; (try with_reducible rfl))
    (try simp only [Act.put]); (try simp only [List.setIfInBounds_toArray]); (try simp only [List.set_cons_succ]); (try simp only [List.set_cons_zero])
    refine wpAnyH_take (i := 16) (v := ?_) rfl (by kernel_rfl) (by kernel_rfl) (by kernel_rfl) (fun _ _ _ h => h) (Or.inl ⟨by rfl, ?_⟩) (by assumption) ?_
    rotate_left
    · (intro W hSw; (try dsimp only at hSw); go_simp; (try with_reducible rfl))
    (try simp only [Act.put]); (try simp only [List.setIfInBounds_toArray]); (try simp only [List.set_cons_succ]); (try simp only [List.set_cons_zero])
    refine wpAnyH_take (i := 17) (v := ?_) rfl (by kernel_rfl) (by kernel_rfl) (by kernel_rfl) (fun _ _ _ h => h) (Or.inl ⟨by rfl, ?_⟩) (by assumption) ?_
    rotate_left
    · (intro W hSw; (try dsimp only at hSw); go_simp; (try with_reducible rfl))
    (try simp only [Act.put]); (try simp only [List.setIfInBounds_toArray]); (try simp only [List.set_cons_succ]); (try simp only [List.set_cons_zero])
    refine wpAnyH_ready (rs := [18]) (by kernel_rfl) (by simp) ?_
    refine AllReadyH.cons rfl (fun K hK => ?_) AllReadyH.nil
    go_simp
    refine (keepB4 w3 _ w.heap.size _ _ _ _ hHeld (awake_any _ (HE3.out.below hHeld.2.2.2.2))).mono ?_
    rintro e w8 ⟨rfl, hb8, hk8⟩
    refine hK.out _ _ (hk8) (fun hHeld => ?_)
    clear hK K
    (try simp only [Act.put]); (try simp only [List.setIfInBounds_toArray]); (try simp only [List.set_cons_succ]); (try simp only [List.set_cons_zero])
    refine wpAnyH_ready (rs := [19]) (by kernel_rfl) (by simp) ?_
    refine AllReadyH.cons rfl (fun K hK => ?_) AllReadyH.nil
    go_simp
    refine hK.out _ _ (hHeld) (fun hHeld => ?_)
    clear hK K
    (try simp only [Act.put]); (try simp only [List.setIfInBounds_toArray]); (try simp only [List.set_cons_succ]); (try simp only [List.set_cons_zero])
    refine wpAnyH_ready (rs := [20]) (by kernel_rfl) (by simp) ?_
    refine AllReadyH.cons rfl (fun K hK => ?_) AllReadyH.nil
    go_simp
    refine hK.out _ _ (hHeld) (fun hHeld => ?_)
    clear hK K
    (try simp only [Act.put]); (try simp only [List.setIfInBounds_toArray]); (try simp only [List.set_cons_succ]); (try simp only [List.set_cons_zero])
    refine wpAnyH_done (by kernel_rfl) ?_ _
    go_wp2_with fail
    go_ret
    exact ⟨rfl, below_then hW3 hk8.2.2.2.2⟩
  · go_wp2_with fail
    have hd0 := (Below.refl w3.heap.size w3).drew
    go_region_held3 (fun w' => w'.cell? ⟨w.heap.size, 0, none⟩ = some (.int .i64 xa) ∧ w'.cell? ⟨w.heap.size, 1, none⟩ = some (.int .i64 xb) ∧ w'.cell? ⟨w.heap.size, 2, none⟩ = some (.int .i64 xc) ∧ w'.cell? ⟨w.heap.size, 3, none⟩ = some (.string xp) ∧ Below w3.heap.size w3 w') (go_keep)
      (first
        | (go_at_call_of 18 (Value.slice ya N.length ycap); refine (keepB4 w3 _ w.heap.size _ _ _ _ (by assumption) (M1.out _ _ (HE3.out.below (And.right (And.right (And.right (And.right (by assumption)))))) (HY.out.below (And.right (And.right (And.right (And.right (by assumption))))) (Nat.le_refl _)) ⟨_, _, rfl⟩)).mono ?_; rintro e w4 ⟨rfl, hb4, hk4⟩)
        | (go_at_call_of 18 (Value.slice pa a.length ca); refine (keepB4 w3 _ w.heap.size _ _ _ _ (by assumption) (M2.out _ (HE3.out.below (And.right (And.right (And.right (And.right (by assumption)))))) (HA3.out.below (And.right (And.right (And.right (And.right (by assumption))))) (Nat.le_refl _)))).mono ?_; rintro e w5 ⟨rfl, hb5, hk5⟩)
        | (go_at_call_of 18 (Value.slice pb b.length cb); refine (keepB4 w3 _ w.heap.size _ _ _ _ (by assumption) (M3.out _ (HE3.out.below (And.right (And.right (And.right (And.right (by assumption)))))) (HB3.out.below (And.right (And.right (And.right (And.right (by assumption))))) (Nat.le_refl _)))).mono ?_; rintro e w6 ⟨rfl, hb6, hk6⟩)
        | (go_at_call 9; refine (keepB4 w3 _ w.heap.size _ _ _ _ (by assumption) (awake_any _ (HE3.out.below (And.right (And.right (And.right (And.right (by assumption)))))))).mono ?_; rintro e w8 ⟨rfl, hb8, hk8⟩))
    all_goals
      go_wp2_with fail
      go_ret
      exact ⟨rfl, below_then hW3 hk8.2.2.2.2⟩
end Go.Proofs.YthojbknakmjndaaGreatDoor
