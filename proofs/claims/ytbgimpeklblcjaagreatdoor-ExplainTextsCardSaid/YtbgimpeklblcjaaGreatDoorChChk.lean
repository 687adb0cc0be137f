/- Choices: Check, the program's and the reference's: walks. -/
import Derived.Test.YtbgimpeklblcjaaGreatDoorChOffers
import Derived.Test.YtbgimpeklblcjaaGreatDoorRanRef1
import Derived.Test.YtbgimpeklblcjaaGreatDoorLex2
namespace Go
open Go.RowKit
/-- the error of a need, of needs -/
def wantErr (x : Want × Value) : Int := if nameOk x.1.name = true then rangeErr x.1.bs else 110
def needErr : List (Want × Value) → Int
 | [] => 0
 | x :: xs => if wantErr x = 0 then needErr xs else wantErr x
theorem needErr_at : ∀ (xs : List (Want × Value)) (k : Nat) (hk : k < xs.length), (∀ j (hj : j < xs.length), j < k → wantErr xs[j] = 0) → wantErr xs[k] ≠ 0 → needErr xs = wantErr xs[k]
 | x :: xs, 0, _, _, h2 => by unfold needErr; exact if_neg h2
 | x :: xs, k + 1, hk, h1, h2 => by
  unfold needErr
  rw [if_pos (show wantErr x = 0 from h1 0 (by simp) (by omega))]
  exact needErr_at xs k (by simpa using hk) (fun j hj hjk => h1 (j + 1) (by simpa using hj) (by omega)) h2
theorem needErr_none : ∀ (xs : List (Want × Value)), (∀ j (hj : j < xs.length), wantErr xs[j] = 0) → needErr xs = 0
 | [], _ => rfl
 | x :: xs, h => by
  unfold needErr
  rw [if_pos (show wantErr x = 0 from h 0 (by simp))]
  exact needErr_none xs (fun j hj => h (j + 1) (by simpa using hj))
theorem rangeErr_or (bs : List Bnd) : rangeErr bs = 0 ∨ rangeErr bs = 50 := by
 unfold rangeErr
 cases rangeOk bs
 ·exact .inr rfl
 ·exact .inl rfl
def NeRel (needs : List (Want × Value)) (w : World) (i : Value) (wr : World) : Prop :=
 ∃ k : Nat, k ≤ needs.length ∧ i = .int .i64 (k : Int) ∧ (∀ j (hj : j < needs.length), j < k → wantErr needs[j] = 0) ∧ Below w.heap.size w wr
theorem NeRel.next {needs : List (Want × Value)} {k : Nat} {x : Want × Value} (hk : k < needs.length) (hx : needs[k] = x) (h : ∀ j (hj : j < needs.length), j < k → wantErr needs[j] = 0) (he : wantErr x = 0) : ∀ j (hj : j < needs.length), j < k + 1 → wantErr needs[j] = 0 := fun j hj hjk => by
 by_cases hlt : j < k
 ·exact h j hj hlt
 ·have : j = k := by omega
  subst this
  rw [hx]; exact he
end Go
namespace Go.Proofs.YtbgimpeklblcjaaGreatDoor
open Go.RowKit
theorem rangeC_as (v : Value) (bs : List Bnd) (r : Int) (h : rangeErr bs = r) (w : World) (hv : Bnds w v bs) (hlen : ∃ a cap, v = .slice a bs.length cap) (hE : Env w) (hp : ∀ x ∈ bs, x.v.p.size ≤ 300) :
  Calls Tryz.prog 49 #[v] w fun e w' => e = .returned (.int .i64 r) ∧ Below w.heap.size w w' := by
 subst h; exact rcheck_any v bs w hv hlen hE (fun x hx => by have := hp x hx; omega)
set_option maxRecDepth 100000 in
set_option maxHeartbeats 4000000 in
theorem chCheck_any (v : Value) (needs : List (Want × Value)) (w : World) (hn : Wants w v needs) (hE : Env w) (hnd : ∀ x ∈ needs, ∀ b ∈ x.1.bs, b.v.p.size ≤ 300) :
  Calls Tryz.prog 22 #[v] w fun e w' => e = .returned (.int .i64 (needErr needs)) ∧ Below w.heap.size w w' := by
 obtain ⟨hmx, a0, cap0, rfl⟩ := hn.len
 have hmx2 : needs.length ≤ 9223372036854775807 := Nat.le_trans hmx (by decide)
 have HN := Lib.hid hn
 have HE := Lib.hid hE
 have HNd := Lib.hid hnd
 clear hn hE hnd hmx
 go_enter Tryz.func22, Tryz.ntmps22
 go_wp2_with fail
 go_loopw [8] (fun i wr => NeRel needs w i wr) (fun i _ => needs.length - (intOf i).toNat)
 case atStart => exact ⟨0, Nat.zero_le _, rfl, fun j _ h => absurd h (Nat.not_lt_zero _), Below.refl _ _⟩
 case round =>
  obtain ⟨k, hk, rfl, hall, hb⟩ := hrel
  have HA := Lib.hid hall
  clear hall
  by_cases hlt : k < needs.length
  ·have j0 : (0 : Int) ≤ (k : Int) := by omega
   have j1 : (k : Int) < (needs.length : Int) := by omega
   obtain ⟨bn, on, rfl, hbn, g0, g1⟩ := HN.out.at' hb hlt
   have hmem := List.getElem_mem hlt
   obtain ⟨⟨nd, rv⟩, hne⟩ : ∃ x, needs[k] = x := ⟨_, rfl⟩
   rw [hne] at g0 g1 hmem
   obtain ⟨hbs, ra, rcap, hrv⟩ := HN.out.2 _ hmem
   simp only at g0 g1 hbs hrv
   subst hrv
   have HND := Lib.hid (HNd.out _ hmem)
   have HX := Lib.hid hne
   have hn1 : Below (wr.heap.size + 1) (wr.alloc (.cells #[.string (S nd.name), .slice ra nd.bs.length rcap] 60)) (wr.alloc (.cells #[.string (S nd.name), .slice ra nd.bs.length rcap] 60)) := Below.refl _ _
   have hb2 := below_then hb (below_first hn1)
   have d0 := box_cells hn1 0
   have d1 := box_cells hn1 1
   simp only [List.getElem?_toArray, List.getElem?_cons_zero, List.getElem?_cons_succ] at d0 d1
   obtain ⟨ok, hok⟩ : ∃ ok, nameOk (S nd.name).data.toList = ok := ⟨_, rfl⟩
   have HK := Lib.hid (fun W => lname_as (S nd.name) ok hok W)
   have hok2 : nameOk nd.name = ok := by rw [← hok, S_data]
   obtain ⟨r, hr⟩ : ∃ r, rangeErr nd.bs = r := ⟨_, rfl⟩
   have HC := Lib.hid (rangeC_as (.slice ra nd.bs.length rcap) nd.bs r hr _ (hbs.below hb2 (Nat.le_refl _)) ⟨_, _, rfl⟩ (HE.out.below hb2) HND.out)
   have HV : Hid (wantErr (nd, .slice ra nd.bs.length rcap) = if ok = true then r else 110) := by
    show _ = _
    unfold wantErr; rw [hok2, hr]
   have hro := rangeErr_or nd.bs
   rw [hr] at hro
   clear hne hmem hbs hok hok2 hr hn1
   cases ok
   ·have HF : Hid (needErr needs = 110) := by
     show _ = _
     rw [needErr_at needs k hlt HA.out (by rw [HX.out, HV.out]; simp), HX.out, HV.out]; rfl
    go_wp2_with fail
    refine (HK.out _).mono ?_
    rintro e w1 ⟨rfl, rfl⟩
    go_wp2_with fail
    go_ret
    exact ⟨by rw [HF.out]; rfl, hb2⟩
   ·rcases hro with rfl | rfl
    ·have HN0 := Lib.hid (NeRel.next hlt HX.out HA.out (by rw [HV.out]; rfl))
     go_wp2_with fail
     refine (HK.out _).mono ?_
     rintro e w1 ⟨rfl, rfl⟩
     go_wp2_with fail
     refine HC.out.mono ?_
     rintro e w2 ⟨rfl, hb3⟩
     have hb4 := below_then hb2 hb3
     clear g0 g1 d0 d1 hb3
     go_wp2_with fail
     go_roundw
     case rel => exact ⟨k + 1, hlt, by go_num, HN0.out, hb4⟩
     case measure => simp [intOf]; omega
    ·have HF : Hid (needErr needs = 50) := by
      show _ = _
      rw [needErr_at needs k hlt HA.out (by rw [HX.out, HV.out]; decide), HX.out, HV.out]; rfl
     go_wp2_with fail
     refine (HK.out _).mono ?_
     rintro e w1 ⟨rfl, rfl⟩
     go_wp2_with fail
     refine HC.out.mono ?_
     rintro e w2 ⟨rfl, hb3⟩
     have hb4 := below_then hb2 hb3
     clear g0 g1 d0 d1 hb3
     go_wp2_with fail
     go_ret
     exact ⟨by rw [HF.out]; rfl, hb4⟩
  ·have q5 : decide (k < needs.length) = false := decide_eq_false hlt
   have HF : Hid (needErr needs = 0) := needErr_none _ (fun j hj => HA.out j hj (by omega))
   clear hlt
   go_wp2_with fail
   go_ret
   exact ⟨by rw [HF.out]; rfl, hb⟩
end Go.Proofs.YtbgimpeklblcjaaGreatDoor
