/- RangesNormals: the walk. -/
import Derived.Test.YthojbknakmjndaaGreatDoorRanLaw5
import Derived.Test.YthojbknakmjndaaGreatDoorRanNorm3
import Derived.Test.YthojbknakmjndaaGreatDoorRanRef8
namespace Go
open Go.RowKit
theorem flat_len60 : ∀ ls : List (List Bnd), (∀ l ∈ ls, l.length ≤ 60) → ls.flatten.length ≤ 60 * ls.length
  | [], _ => by simp
  | l :: ls, h => by
    have h1 := h l (by simp)
    have h2 := flat_len60 ls (fun x hx => h x (by simp [hx]))
    rw [List.flatten_cons, List.length_append, List.length_cons]; omega
theorem normal_len (all : List (List Bnd)) : (normalR all).length ≤ 2 := by
  unfold normalR normalE
  split
  · split <;> simp
  · split
    · simp
    · split
      · simp
      · split <;> simp
end Go
namespace Go.Proofs.YthojbknakmjndaaGreatDoor
open Go.RowKit
set_option maxRecDepth 100000 in
set_option maxHeartbeats 4000000 in
theorem rangesNormals_walk (v : Value) (rs : List (Value × List Bnd)) (w : World) (hE : Env w) (hv : Rngs w v rs) (hlen : ∃ a cap, v = .slice a rs.length cap) :
    Calls Tryz.prog 6 #[v] w fun e w' => e = .returned (.bool true) ∧ Below w.heap.size w w' := by
  have HE := Lib.hid hE
  have HV := Lib.hid hv
  clear hE hv
  obtain ⟨va, vcap, rfl⟩ := hlen
  obtain ⟨r, hr⟩ : ∃ r, lightB (rs.map Prod.snd) = r := ⟨_, rfl⟩
  have HR := Lib.hid hr
  clear hr
  cases r
  · go_enter Tryz.func6, Tryz.ntmps6
    go_wp2_with fail
    refine (light_as _ rs false HR.out _ HV.out ⟨_, _, rfl⟩).mono ?_
    rintro e w1 ⟨rfl, rfl⟩
    go_wp2_with fail
    refine (awake_any _ HE.out).mono ?_
    rintro e w9 ⟨rfl, hb9⟩
    go_wp2_with fail
    go_ret
    exact ⟨rfl, hb9⟩
  have hz := lightB_sz HR.out
  have hsz : ∀ r ∈ rs, ∀ x ∈ r.2, x.v.p.size ≤ 300 := by
    intro r hr x hx
    have := (hz.2 r.2 (List.mem_map_of_mem (f := Prod.snd) hr)).2 x hx
    omega
  have hfl : ((rs.map Prod.snd).flatten).length ≤ 100000 := by
    have := flat_len60 (rs.map Prod.snd) (fun l hl => (hz.2 l hl).1)
    have := hz.1
    omega
  obtain ⟨N, hN⟩ : ∃ N, normalR (rs.map Prod.snd) = N := ⟨_, rfl⟩
  have hNl : N.length ≤ 100000 := by rw [← hN]; have := normal_len (rs.map Prod.snd); omega
  have C1 := fun w hE hv => normal_any (.slice va rs.length vcap) rs w hE hv ⟨_, _, rfl⟩ hsz
  have C2 := fun w hv => refNormal_any (.slice va rs.length vcap) rs w hv ⟨_, _, rfl⟩ hsz hfl
  rw [hN] at C1 C2
  have HC1 := Lib.hid C1
  have HC2 := Lib.hid C2
  clear hz hsz hfl hN C1 C2
  go_enter Tryz.func6, Tryz.ntmps6
  go_wp2_with fail
  refine (light_as _ rs true HR.out _ HV.out ⟨_, _, rfl⟩).mono ?_
  rintro e w1 ⟨rfl, rfl⟩
  go_wp2_with fail
  refine (HC1.out _ HE.out HV.out).mono ?_
  rintro e w2 ⟨x, rfl, hx, ⟨xa, xcap, rfl⟩, hb2⟩
  have HX := Lib.hid hx
  clear hx
  go_wp2_with fail
  refine (HC2.out _ (HV.out.below hb2 (Nat.le_refl _))).mono ?_
  rintro e w3 ⟨y, rfl, hy, ⟨ya, ycap, rfl⟩, hb3⟩
  have HX := Lib.hid (HX.out.below hb3 (Nat.le_refl _))
  have HY := Lib.hid hy
  have hb3 := below_then hb2 hb3
  clear hy
  go_wp2_with fail
  refine (same_self _ _ N _ HX.out ⟨_, _, rfl⟩ HY.out ⟨_, _, rfl⟩ hNl).mono ?_
  rintro e w4 ⟨rfl, hb4⟩
  have hb4 := below_then hb3 hb4
  go_wp2_with fail
  refine (awake_any _ (HE.out.below hb4)).mono ?_
  rintro e w9 ⟨rfl, hb9⟩
  go_wp2_with fail
  go_ret
  exact ⟨rfl, below_then hb4 hb9⟩
end Go.Proofs.YthojbknakmjndaaGreatDoor
