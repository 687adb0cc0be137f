/- The probes of the laws of layer 5: a walk. -/
import Derived.Test.YthojbknakmjndaaGreatDoorRanProg3
import Derived.Test.YthojbknakmjndaaGreatDoorRanProg5
import Derived.Test.YthojbknakmjndaaGreatDoorRanProg6
namespace Go.Proofs.YthojbknakmjndaaGreatDoor
open Go.RowKit
theorem rparse_lit (l : List UInt8) (bs : List Bnd) (er : Int) (h : RParseIs l bs er) (hl : l.length ≤ 100) (w : World) (hE : Env w) :
    Calls Tryz.prog 10 #[.string (S l)] w fun e w' => ∃ a cap, e = .returned (.tuple #[.slice a bs.length cap, .int .i64 er]) ∧ Bnds w' (.slice a bs.length cap) bs ∧ Below w.heap.size w w' := by
  refine (rparse_any (S l) w hE (by rw [S_size]; omega)).mono ?_
  rintro e w' ⟨x, bs', er', he, hx, ⟨a, cap, rfl⟩, hp, hb⟩
  obtain ⟨rfl, rfl⟩ := RParseIs.uniq hp h
  exact ⟨a, cap, he, hx, hb⟩
theorem meets_as (x : V4) (v : Value) (bs : List Bnd) (r : Bool) (h : meetsR x bs = r) (w : World) (hv : Bnds w v bs) (hlen : ∃ a cap, v = .slice a bs.length cap) (hE : Env w) (hx : x.p.size ≤ 300) (hp : ∀ b ∈ bs, b.v.p.size ≤ 300) (hn : bs.length ≤ 1000) :
    Calls Tryz.prog 18 #[.agg #[.int .i64 x.a, .int .i64 x.b, .int .i64 x.c, .string x.p], v] w fun e w' => e = .returned (.bool r) ∧ Below w.heap.size w w' := by
  subst h; exact meets_any x v bs w hv hlen hE hx hp hn
def aw : List Bnd := [⟨4, ⟨1, 2, 3, ⟨#[]⟩⟩⟩, ⟨1, ⟨2, 0, 0, ⟨#[]⟩⟩⟩]
theorem aw_near : near ⟨1, 2, 3, ⟨#[]⟩⟩ = aw := by
  unfold near
  rw [if_pos (by decide)]
  rfl
theorem aw_show123 : showL 1 2 3 [] = [49, 46, 50, 46, 51] := by
  unfold showL showCore
  rw [dig10_lt 1 (by decide), dig10_lt 2 (by decide), dig10_lt 3 (by decide)]
  decide
theorem aw_show200 : showL 2 0 0 [] = [50, 46, 48, 46, 48] := by
  unfold showL showCore
  rw [dig10_lt 0 (by decide), dig10_lt 2 (by decide)]
  decide
theorem aw_p1 : RParseIs [94, 49, 46, 50, 46, 51] aw 0 := by
  rw [← aw_near]
  exact rparse_near rfl ⟨by decide, aw_show123⟩
theorem aw_p2 : RParseIs [49, 46, 48, 46, 48] [] 50 := by
  refine range_no (by decide) (by decide) 0 (by decide) (.inr fun b hb e => ?_)
  obtain ⟨x, r, e2, hx⟩ := showB_head (bs := [b]) (by simp) (by simpa using hb)
  have e3 : showB [b] = b.show := rfl
  rw [e3, e] at e2
  have e4 : (sepAt 32 [49, 46, 48, 46, 48])[0] = [49, 46, 48, 46, 48] := by decide
  rw [e4] at e2
  simp at e2
  rw [← e2.1] at hx
  exact absurd hx (by decide)
theorem aw_ok : rangeOk aw = true := by decide
theorem aw_s : showR aw = [62, 61, 49, 46, 50, 46, 51, 32, 60, 50, 46, 48, 46, 48] := by
  show signL 4 ++ showL 1 2 3 [] ++ 32 :: (signL 1 ++ showL 2 0 0 []) = _
  rw [aw_show123, aw_show200]
  decide
theorem aw_m1 : meetsR ⟨1, 9, 0, ⟨#[]⟩⟩ aw = true := by decide
theorem aw_m2 : meetsR ⟨2, 0, 0, ⟨#[]⟩⟩ aw = false := by decide
theorem aw_sz : ∀ b ∈ aw, b.v.p.size ≤ 300 := by
  intro b hb
  simp [aw] at hb
  rcases hb with rfl | rfl <;> decide
theorem rshow_aw (a : Option Addr) (cap : Nat) (w : World) (hv : Bnds w (.slice a 2 cap) aw) (hE : Env w) :
    Calls Tryz.prog 14 #[.slice a 2 cap] w fun e w' => e = .returned (.tuple #[.string ⟨#[62, 61, 49, 46, 50, 46, 51, 32, 60, 50, 46, 48, 46, 48]⟩, .int .i64 0]) ∧ Below w.heap.size w w' := by
  have := rshow_yes (.slice a 2 cap) aw w hv ⟨a, cap, rfl⟩ hE (fun x hx => by have := aw_sz x hx; omega) aw_ok
  rw [aw_s] at this
  exact this
set_option maxRecDepth 100000 in
set_option maxHeartbeats 1000000 in
theorem awake_any (w : World) (hE : Env w) :
    Calls Tryz.prog 9 #[] w fun e w' => e = .returned (.bool true) ∧ Below w.heap.size w w' := by
  have HE := Lib.hid hE
  clear hE
  go_enter Tryz.func9, Tryz.ntmps9
  go_wp2_with fail
  refine (rparse_lit [94, 49, 46, 50, 46, 51] aw 0 aw_p1 (by decide) _ HE.out).mono ?_
  rintro e w1 ⟨a, cap, rfl, hv1, hb1⟩
  have HV1 := Lib.hid hv1
  have HE1 := Lib.hid (HE.out.below hb1)
  clear hv1
  rw [show aw.length = 2 from rfl] at HV1 ⊢
  go_wp2_with fail
  refine (rshow_aw a cap _ HV1.out HE1.out).mono ?_
  rintro e w2 ⟨rfl, hb2⟩
  have HE2 := Lib.hid (HE1.out.below hb2)
  have HV2 := Lib.hid (HV1.out.below hb2 (Nat.le_refl _))
  have hb12 := below_then hb1 hb2
  clear hb1 hb2
  go_wp2_with fail
  refine (rparse_lit [49, 46, 48, 46, 48] [] 50 aw_p2 (by decide) _ HE2.out).mono ?_
  rintro e w3 ⟨a3, cap3, rfl, _, hb3⟩
  have HE3 := Lib.hid (HE2.out.below hb3)
  have HV3 := Lib.hid (HV2.out.below hb3 (Nat.le_refl _))
  have hb13 := below_then hb12 hb3
  clear hb12 hb3
  go_wp2_with fail
  refine (meets_as ⟨1, 9, 0, ⟨#[]⟩⟩ _ aw true aw_m1 _ HV3.out ⟨a, cap, rfl⟩ HE3.out (by decide) aw_sz (by decide)).mono ?_
  rintro e w4 ⟨rfl, hb4⟩
  have HE4 := Lib.hid (HE3.out.below hb4)
  have HV4 := Lib.hid (HV3.out.below hb4 (Nat.le_refl _))
  have hb14 := below_then hb13 hb4
  clear hb13 hb4
  go_wp2_with fail
  refine (meets_as ⟨2, 0, 0, ⟨#[]⟩⟩ _ aw false aw_m2 _ HV4.out ⟨a, cap, rfl⟩ HE4.out (by decide) aw_sz (by decide)).mono ?_
  rintro e w5 ⟨rfl, hb5⟩
  go_wp2_with fail
  go_ret
  exact ⟨rfl, below_then hb14 hb5⟩
end Go.Proofs.YthojbknakmjndaaGreatDoor
