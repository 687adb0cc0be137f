/- Sorting in place: slices.symMergeCmpFunc, stableCmpFunc, SortStableFunc at offers: walks. -/
import Derived.Test.YtbgimpeklblcjaaGreatDoorStabAll
import Derived.Test.YtbgimpeklblcjaaGreatDoorStabMath3
namespace Go.Proofs.YtbgimpeklblcjaaGreatDoor
open Go.RowKit
section
variable {β : Type} (c : Six β) (B g n cap : Nat) (w0 : World)
theorem symMerge_any (good : β → Prop) (cf : β → β → Int) (ho : OrdG cf) (gf : FuncId) (cb : Array Value) (eg : ∀ args w, (callFunc gf args).run Tryz.prog w = .ok (.enter gf args) w) (hcm : Cmp6 c Tryz.prog gf cb good cf w0 g) (hn : n ≤ 1000000) (h1c : ∀ x, ∀ v ∈ c.list x, v.oneCell' = true) :
  ∀ (D : Nat) (a m b : Nat) (f : Nat → β × Nat) (w : World), Own6 c B 55 g n cap f w → w0.grownBy w (some g) → b - a < D → a < m → m < b → b ≤ n → (∀ t, t < n → good (f t).1) → Stab.Runs cf a m b f →
  Calls Tryz.prog 95 #[.slice (some ⟨g, 0, none⟩) n cap, .int .i64 (a : Int), .int .i64 (m : Int), .int .i64 (b : Int), .func (.func gf) #[] cb] w fun e w' => e = .returned (.tuple #[]) ∧ (∃ k, Stab.Perm a b f k ∧ Stab.Srt cf a b k ∧ Own6 c B 55 g n cap k w') ∧ w0.grownBy w' (some g) := by
 intro D
 induction D with
 | zero => intro a m b f w _ _ h; omega
 | succ D ih =>
  intro a m b f w h hg hD ham hmb hbn hgd hr
  by_cases h1 : a + 1 = m
  ·exact symA c B g n cap w0 good cf ho gf cb eg hcm f a m b w h hg h1 hmb hbn hn h1c hgd hr
  by_cases h2 : m + 1 = b
  ·exact symB c B g n cap w0 good cf ho gf cb eg hcm f a m b w h hg (by omega) h2 hbn hn h1c hgd hr
  have IH := fun a' m' b' (f' : Nat → β × Nat) W (k1 : Own6 c B 55 g n cap f' W) (k2 : w0.grownBy W (some g)) (k3 : b' - a' < b - a) => ih a' m' b' f' W k1 k2 (by omega)
  by_cases hmid : (a + b) / 2 < m
  ·exact symC c B g n cap w0 good cf ho gf cb eg hcm f a m b w h hg (by omega) (by omega) hbn hn h1c hgd hr hmid IH
  ·exact symD c B g n cap w0 good cf ho gf cb eg hcm f a m b w h hg (by omega) (by omega) hbn hn h1c hgd hr hmid IH
def S1Rel (cf : β → β → Int) (f : Nat → β × Nat) (i j : Value) (wr : World) : Prop :=
 ∃ (x y : Nat) (k : Nat → β × Nat), x + 20 = y ∧ i = .int .i64 (x : Int) ∧ j = .int .i64 (y : Int) ∧ Stab.First cf n 20 f x k ∧ Own6 c B 55 g n cap k wr ∧ w0.grownBy wr (some g)
def S2Rel (cf : β → β → Int) (f : Nat → β × Nat) (i : Value) (wr : World) : Prop :=
 ∃ (bs : Nat) (k : Nat → β × Nat), 0 < bs ∧ bs ≤ 2 * n + 20 ∧ i = .int .i64 (bs : Int) ∧ Stab.Level cf n bs f k ∧ Own6 c B 55 g n cap k wr ∧ w0.grownBy wr (some g)
def S3Rel (cf : β → β → Int) (f : Nat → β × Nat) (bs d : Nat) (i j : Value) (wr : World) : Prop :=
 ∃ (x y : Nat) (k : Nat → β × Nat), x + d = y ∧ x ≤ n ∧ i = .int .i64 (x : Int) ∧ j = .int .i64 (y : Int) ∧ Stab.Pass cf n bs f x k ∧ Own6 c B 55 g n cap k wr ∧ w0.grownBy wr (some g)
set_option maxRecDepth 100000 in
set_option maxHeartbeats 4000000 in
theorem stable_any (good : β → Prop) (cf : β → β → Int) (ho : OrdG cf) (gf : FuncId) (cb : Array Value) (eg : ∀ args w, (callFunc gf args).run Tryz.prog w = .ok (.enter gf args) w) (hcm : Cmp6 c Tryz.prog gf cb good cf w0 g)
  (f : Nat → β × Nat) (w : World) (h : Own6 c B 55 g n cap f w) (hg : w0.grownBy w (some g)) (hn : n ≤ 1000000) (h1c : ∀ x, ∀ v ∈ c.list x, v.oneCell' = true)
  (hgd : ∀ t, t < n → good (f t).1) (hinc : ∀ p q, p < q → q < n → (f p).2 < (f q).2) :
  Calls Tryz.prog 58 #[.slice (some ⟨g, 0, none⟩) n cap, .int .i64 (n : Int), .func (.func gf) #[] cb] w fun e w' => e = .returned (.tuple #[]) ∧ (∃ k, Stab.Perm 0 n f k ∧ Stab.Srt cf 0 n k ∧ Own6 c B 55 g n cap k w') ∧ w0.grownBy w' (some g) := by
 have HO := Lib.hid h
 have HG := Lib.hid hg
 have H1 := Lib.hid h1c
 have HGd := Lib.hid hgd
 have HInc := Lib.hid hinc
 have HIns := Lib.hid (fun k a b W => insertion_any c B g n cap w0 good cf ho gf cb eg hcm k a b W)
 have HSym := Lib.hid (symMerge_any c B g n cap w0 good cf ho gf cb eg hcm hn h1c)
 clear h hg h1c hgd hinc hcm
 go_enter Tryz.func58, Tryz.ntmps58
 go_wp2_with fail
 go_loopw [7, 8] (fun i j wr => S1Rel c B g n cap w0 cf f i j wr) (fun i _ _ => n + 20 - (intOf i).toNat)
 case atStart => exact ⟨0, 20, f, rfl, rfl, rfl, Stab.first_start n 20 f, HO.out, HG.out⟩
 case round =>
  obtain ⟨x, y, k, hxy, rfl, rfl, hfs, hown, hgr⟩ := hrel
  have hxn := hfs.2.1
  have HFs := Lib.hid hfs
  have hgk := Stab.good_perm hfs.2.2.2 hxn HGd.out
  by_cases hyn : y ≤ n
  ·have q1 : decide ((y : Int) ≤ (n : Int)) = true := decide_eq_true (by omega)
   have q1' : decide (y ≤ n) = true := decide_eq_true hyn
   have HC := Lib.hid (HIns.out k x y wr hown hgr (by omega) hyn hn H1.out hgk (Stab.first_inc HInc.out hfs hyn))
   have HXY := Lib.hid hxy
   obtain ⟨z, hz⟩ : ∃ z, y + 20 = z := ⟨_, rfl⟩
   have ez : (y : Int) + 20 = (z : Int) := by omega
   have HZ := Lib.hid hz
   have hxy2 : x < y := by omega
   have hyn2 : y ≤ n := hyn
   clear hfs hown hgr hgk hyn hxy hz
   go_wp2_with fail
   refine HC.out.mono ?_
   rintro e w1 ⟨rfl, ⟨k1, hp1, hs1, ho1⟩, hg1⟩
   have HF2 : Hid (Stab.First cf n 20 f y k1) := by
    show Stab.First _ _ _ _ _ _
    have hp := hp1
    have hs := hs1
    rw [← HXY.out] at hp hs
    rw [← HXY.out]
    exact Stab.first_step HFs.out (by have := HXY.out; have := of_decide_eq_true q1'; omega) hp hs
   have HO1 := Lib.hid ho1
   clear hp1 hs1 ho1
   go_wp2_with fail
   go_roundw
   case rel => exact ⟨y, z, k1, HZ.out, rfl, rfl, HF2.out, HO1.out, hg1⟩
   case measure => simp [intOf]; omega
  ·have q1 : decide ((y : Int) ≤ (n : Int)) = false := decide_eq_false (by omega)
   have q1' : decide (y ≤ n) = false := decide_eq_false hyn
   have HC := Lib.hid (HIns.out k x n wr hown hgr hxn (Nat.le_refl _) hn H1.out hgk (Stab.first_inc HInc.out hfs (Nat.le_refl _)))
   have hlt : n < x + 20 := by omega
   clear hfs hown hgr hgk hyn hxy
   go_wp2_with fail
   refine HC.out.mono ?_
   rintro e w1 ⟨rfl, ⟨k1, hp1, hs1, ho1⟩, hg1⟩
   have HL := Lib.hid (Stab.first_end HFs.out hlt hp1 hs1)
   have HO1 := Lib.hid ho1
   clear hp1 hs1 ho1 hlt
   go_wp2_with fail
   go_loopw [6] (fun i wr => S2Rel c B g n cap w0 cf f i wr) (fun i _ => n - (intOf i).toNat)
   case atStart => exact ⟨20, k1, by decide, by omega, rfl, HL.out, HO1.out, hg1⟩
   case round =>
    obtain ⟨bs, k2, hb0, hbn, rfl, hlv, hown2, hgr2⟩ := hrel
    have HLv := Lib.hid hlv
    by_cases hbs : bs < n
    ·have q2 : decide ((bs : Int) < (n : Int)) = true := decide_eq_true (by omega)
     have q2' : decide (bs < n) = true := decide_eq_true hbs
     obtain ⟨d, hd⟩ : ∃ d, 2 * bs = d := ⟨_, rfl⟩
     have ed : 2 * (bs : Int) = (d : Int) := by omega
     have ed2 : (bs : Int) * 2 = (d : Int) := by omega
     have hd0 : 0 < d := by omega
     have hdn : d ≤ 2 * n + 20 := by omega
     have hbd : bs < d := by omega
     have HD := Lib.hid hd
     have HO2 := Lib.hid hown2
     have hgr3 := hgr2
     clear hlv hown2 hd hgr2
     go_wp2_with fail
     go_loopw [7, 8] (fun i j wr => S3Rel c B g n cap w0 cf f bs d i j wr) (fun i _ _ => n + d - (intOf i).toNat)
     case atStart => exact ⟨0, d, k2, by omega, Nat.zero_le _, rfl, rfl, Stab.pass_start HLv.out, HO2.out, hgr3⟩
     case round =>
      obtain ⟨x, y, k3, hxy, hxn, rfl, rfl, hps, hown, hgr⟩ := hrel
      have HPs := Lib.hid hps
      have hgk := Stab.good_perm hps.2.2.2 (Nat.le_refl _) HGd.out
      obtain ⟨m, hm⟩ : ∃ m, x + bs = m := ⟨_, rfl⟩
      have em : (x : Int) + (bs : Int) = (m : Int) := by omega
      have hd2 := HD.out
      by_cases hyn : y ≤ n
      ·have q3 : decide ((y : Int) ≤ (n : Int)) = true := decide_eq_true (by omega)
       have q3' : decide (y ≤ n) = true := decide_eq_true hyn
       have hru : Stab.Runs cf x m y k3 := by
        have := Stab.pass_runs (b := y) HInc.out hps (by omega) (by omega) hyn
        rw [hm] at this; exact this
       have HC := Lib.hid (HSym.out (y - x + 1) x m y k3 wr hown hgr (by omega) (by omega) (by omega) hyn hgk hru)
       have hst : x + 2 * bs = y := by omega
       obtain ⟨z, hz⟩ : ∃ z, y + d = z := ⟨_, rfl⟩
       have ez : (y : Int) + (d : Int) = (z : Int) := by omega
       have HSt := Lib.hid hst
       have HZ := Lib.hid hz
       have hxy2 : x < y := by omega
       have hyn2 : y ≤ n := hyn
       clear hps hown hgr hgk hxy hm hd2 hru hst hz hyn
       go_wp2_with fail
       refine HC.out.mono ?_
       rintro e w2 ⟨rfl, ⟨k4, hp4, hs4, ho4⟩, hg4⟩
       have HP2 : Hid (Stab.Pass cf n bs f y k4) := by
        show Stab.Pass _ _ _ _ _ _
        have hp := hp4
        have hs := hs4
        rw [← HSt.out] at hp hs
        rw [← HSt.out]
        exact Stab.pass_step HPs.out (by rw [HSt.out]; exact hyn2) hp hs
       have HO4 := Lib.hid ho4
       clear hp4 hs4 ho4
       go_wp2_with fail
       go_roundw
       case rel => exact ⟨y, z, k4, HZ.out, hyn2, rfl, rfl, HP2.out, HO4.out, hg4⟩
       case measure => simp [intOf]; omega
      ·have q3 : decide ((y : Int) ≤ (n : Int)) = false := decide_eq_false (by omega)
       have q3' : decide (y ≤ n) = false := decide_eq_false hyn
       have hlast : n < x + 2 * bs := by omega
       by_cases hmn : m < n
       ·have q4 : decide ((m : Int) < (n : Int)) = true := decide_eq_true (by omega)
        have q4' : decide (m < n) = true := decide_eq_true hmn
        have hru : Stab.Runs cf x m n k3 := by
         have := Stab.pass_runs (b := n) HInc.out hps (by omega) (by omega) (Nat.le_refl _)
         rw [hm] at this; exact this
        have HC := Lib.hid (HSym.out (n - x + 1) x m n k3 wr hown hgr (by omega) (by omega) hmn (Nat.le_refl _) hgk hru)
        clear hps hown hgr hgk hxy hm hd2 hru hyn hmn
        go_wp2_with fail
        refine HC.out.mono ?_
        rintro e w2 ⟨rfl, ⟨k4, hp4, hs4, ho4⟩, hg4⟩
        have HL2 : Hid (Stab.Level cf n d f k4) := by
         show Stab.Level _ _ _ _ _
         rw [← HD.out]
         exact Stab.pass_end HPs.out hlast (by rw [Nat.max_eq_right hxn]; exact hp4) hs4
        have HO4 := Lib.hid ho4
        clear hp4 hs4 ho4
        go_wp2_with fail
        go_roundw
        case rel => exact ⟨d, k4, hd0, hdn, rfl, HL2.out, HO4.out, hg4⟩
        case measure => simp [intOf]; omega
       ·have q4 : decide ((m : Int) < (n : Int)) = false := decide_eq_false (by omega)
        have q4' : decide (m < n) = false := decide_eq_false hmn
        have HL2 : Hid (Stab.Level cf n d f k3) := by
         show Stab.Level _ _ _ _ _
         rw [← HD.out]
         exact Stab.pass_end HPs.out hlast (Stab.Perm.refl _ _ _) (Stab.pass_short hps (by omega))
        have HO4 := Lib.hid hown
        clear hps hown hgk hxy hm hd2 hyn hmn
        go_wp2_with fail
        go_roundw
        case rel => exact ⟨d, k3, hd0, hdn, rfl, HL2.out, HO4.out, hgr⟩
        case measure => simp [intOf]; omega
    ·have q2 : decide ((bs : Int) < (n : Int)) = false := decide_eq_false (by omega)
     have q2' : decide (bs < n) = false := decide_eq_false hbs
     have hend := Stab.level_end hlv (by omega)
     have HF := Lib.hid (show ∃ k, Stab.Perm 0 n f k ∧ Stab.Srt cf 0 n k ∧ Own6 c B 55 g n cap k wr from ⟨k2, hend.1, hend.2, hown2⟩)
     clear hlv hown2 hbs hend
     go_wp2_with fail
     go_end0
     exact ⟨rfl, HF.out, hgr2⟩
set_option maxRecDepth 100000 in
set_option maxHeartbeats 1000000 in
theorem sortStable_any (good : β → Prop) (cf : β → β → Int) (ho : OrdG cf) (gf : FuncId) (cb : Array Value) (eg : ∀ args w, (callFunc gf args).run Tryz.prog w = .ok (.enter gf args) w) (hcm : Cmp6 c Tryz.prog gf cb good cf w0 g)
  (f : Nat → β × Nat) (w : World) (h : Own6 c B 55 g n cap f w) (hg : w0.grownBy w (some g)) (hn : n ≤ 1000000) (h1c : ∀ x, ∀ v ∈ c.list x, v.oneCell' = true)
  (hgd : ∀ t, t < n → good (f t).1) (hinc : ∀ p q, p < q → q < n → (f p).2 < (f q).2) :
  Calls Tryz.prog 28 #[.slice (some ⟨g, 0, none⟩) n cap, .func (.func gf) #[] cb] w fun e w' => e = .returned (.tuple #[]) ∧ (∃ k, Stab.Perm 0 n f k ∧ Stab.Srt cf 0 n k ∧ Own6 c B 55 g n cap k w') ∧ w0.grownBy w' (some g) := by
 have HC := Lib.hid (stable_any c B g n cap w0 good cf ho gf cb eg hcm f w h hg hn h1c hgd hinc)
 clear h hg h1c hgd hinc hcm
 go_enter Tryz.func28, Tryz.ntmps28
 go_wp2_with fail
 refine HC.out.mono ?_
 rintro e w1 ⟨rfl, hk, hg1⟩
 have HK := Lib.hid hk
 clear hk
 go_wp2_with fail
 go_end0
 exact ⟨rfl, HK.out, hg1⟩
end
end Go.Proofs.YtbgimpeklblcjaaGreatDoor
