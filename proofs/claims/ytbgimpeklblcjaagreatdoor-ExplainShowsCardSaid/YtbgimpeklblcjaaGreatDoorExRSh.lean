/- Explain: picks written by the reference: the walk of its Show. -/
import Derived.Test.YtbgimpeklblcjaaGreatDoorExTexts
import Derived.Test.YtbgimpeklblcjaaGreatDoorExRan4
namespace Go.Proofs.YtbgimpeklblcjaaGreatDoor
open Go.RowKit Go.Maps
theorem pikT_eq (x : Pik) : pikT x = x.name.data.toList ++ [32] ++ x.v.show ++ [10] := by unfold pikT Pik.nm; simp
def RsRel (ps : List Pik) (w : World) (v i : Value) (wr : World) : Prop :=
 ∃ (k : Nat) (X : List UInt8), k ≤ ps.length ∧ i = .int .i64 (k : Int) ∧ v = .string (S X) ∧ X = (ps.take k).flatMap pikT ∧ (∀ j (h : j < ps.length), j < k → Pik.ok ps[j] = true) ∧ Below w.heap.size w wr
theorem rsLen {ps : List Pik} {k : Nat} (hn : ps.length ≤ 1000) (hall : ∀ j (h : j < ps.length), j < k → Pik.ok ps[j] = true) : ((ps.take k).flatMap pikT).length ≤ 300000 := by
 have hok : ∀ x ∈ ps.take k, Pik.ok x = true := fun x hx => by
  obtain ⟨j, hj, rfl⟩ := List.getElem_of_mem hx
  rw [List.length_take] at hj
  rw [List.getElem_take]
  exact hall j (by omega) (by omega)
 have h1 := flat_len (f := pikT) (m := 300) (ps.take k) (fun x hx => pikT_len (pok_parts (hok x hx)).1 (pok_parts (hok x hx)).2)
 have h2 : (ps.take k).length ≤ 1000 := by rw [List.length_take]; omega
 omega
set_option maxRecDepth 100000 in
set_option maxHeartbeats 4000000 in
theorem rexShow_any (v : Value) (ps : List Pik) (w : World) (hp : Piks w v ps) (hs : ∀ x ∈ ps, x.v.p.size ≤ 300) (hn : ps.length ≤ 1000) :
  Calls Tryz.prog 16 #[v] w fun e w' => e = .returned (.tuple #[.string (showT ps), .int .i64 (showE ps)]) ∧ Below w.heap.size w w' := by
 obtain ⟨a0, cap0, rfl⟩ := hp.len
 have HP := Lib.hid hp
 have HS := Lib.hid hs
 clear hp hs
 go_enter Tryz.func16, Tryz.ntmps16
 go_wp2_with fail
 go_loopw [4, 5, 6, 7] (fun v i _ _ wr => RsRel ps w v i wr) (fun _ i _ _ _ => ps.length - (intOf i).toNat)
 case atStart => exact ⟨0, [], Nat.zero_le _, rfl, rfl, rfl, fun j _ h => absurd h (Nat.not_lt_zero _), Below.refl _ _⟩
 case round =>
  obtain ⟨k, X, hk, rfl, rfl, hX, hall, hb⟩ := hrel
  have hXl : X.length ≤ 300000 := by rw [hX]; exact rsLen hn hall
  have HA := Lib.hid hall
  have HB := Lib.hid hb
  have HXe := Lib.hid hX
  clear hall hX
  by_cases hlt : k < ps.length
  ·have i0 : (0 : Int) ≤ (k : Int) := by omega
   have i1 : (k : Int) < (ps.length : Int) := by omega
   obtain ⟨bx, ox, rfl, hbx, hcp⟩ := HP.out.row hb hlt
   obtain ⟨c0, c1, c2, c3, c4⟩ := hcp k hlt
   have HM := Lib.hid (List.getElem_mem hlt)
   have HNx : Hid (Pik.ok ps[k] = true → (∀ j (h : j < ps.length), j < k + 1 → Pik.ok ps[j] = true) ∧ X ++ pikT ps[k] = (ps.take (k + 1)).flatMap pikT) := by
    show _ → _ ∧ _
    intro h0
    refine ⟨fun j hj hjk => ?_, ?_⟩
    ·rcases Nat.lt_succ_iff_lt_or_eq.1 hjk with h | rfl
     ·exact HA.out j hj h
     ·exact h0
    ·rw [HXe.out, List.take_succ_eq_append_getElem hlt, List.flatMap_append, List.flatMap_cons, List.flatMap_nil, List.append_nil]
   generalize (ps[k]'hlt) = x at c0 c1 c2 c3 c4 HM HNx
   clear hcp
   have hwk : IntKind.i64.wrap ((k : Int) + 1) = (k : Int) + 1 := by rw [IntKind.wrap_i64]; omega
   have hps := HS.out x HM.out
   obtain ⟨q, hq⟩ : ∃ q, x.v.ok = q := ⟨_, rfl⟩
   have HQ := Lib.hid hq
   have HC0 := Lib.hid c0
   cases q
   case false =>
    have hve : verErr x.v.a x.v.b x.v.c x.v.p.data.toList = 40 := by unfold verErr; rw [if_neg (by rw [show verOk x.v.a x.v.b x.v.c x.v.p.data.toList = false from hq]; simp)]
    have HSh := Lib.hid (refShow_no x.v.a x.v.b x.v.c x.v.p wr (by omega) hve)
    have HF := Lib.hid (show_bad HM.out (by unfold Pik.ok; rw [hq, Bool.and_false]))
    clear hq hve hps
    go_wp2_with fail
    refine HSh.out.mono ?_
    rintro e w3 ⟨rfl, hb3⟩
    have HB3 := Lib.hid (below_then HB.out hb3)
    clear hb3 hb c0 c1 c2 c3 c4
    go_wp2_with fail
    go_ret2
    exact ⟨by rw [HF.out.1, HF.out.2]; rfl, HB3.out⟩
   have hsl := verShow_len hq
   have HSh := Lib.hid (showRQ_any x.v hq (S x.v.show) rfl wr)
   obtain ⟨r, hr⟩ : ∃ r, nameOk x.name.data.toList = r := ⟨_, rfl⟩
   have HNm := Lib.hid (fun W => rname_as x.name r hr W)
   have HR := Lib.hid hr
   clear hq hps
   go_wp2_with fail
   refine HSh.out.mono ?_
   rintro e w3 ⟨rfl, hb3⟩
   have hb4 := below_then hb hb3
   have d0 := cell_on c0 hb3
   have HB4 := Lib.hid hb4
   clear hb3 hb4 c0 c1 c2 c3 c4
   cases r
   case false =>
    have HF := Lib.hid (show_bad HM.out (by unfold Pik.ok; rw [show nameOk x.nm = false from hr]; rfl))
    clear hr
    go_wp2_with fail
    refine (HNm.out _).mono ?_
    rintro e w5 ⟨rfl, hb5⟩
    have HB5 := Lib.hid (below_then HB4.out hb5)
    clear hb5 d0
    go_wp2_with fail
    go_ret2
    exact ⟨by rw [HF.out.1, HF.out.2]; rfl, HB5.out⟩
   have hok : Pik.ok x = true := by unfold Pik.ok; rw [show x.v.ok = true from HQ.out, show nameOk x.nm = true from hr]; rfl
   have HNy := Lib.hid (HNx.out hok)
   have hnl : x.name.data.toList.length ≤ 100 := (pok_parts hok).1
   have r1 := fun W => add_asE (P := Tryz.prog) (a := S X) (b := x.name) (c := S (X ++ x.name.data.toList)) (by rw [← S_append]; rfl) (by rw [S_sizeE]; simp at hnl ⊢; omega) W
   have r2 := fun W => add_asE (P := Tryz.prog) (a := S (X ++ x.name.data.toList)) (b := ⟨#[32]⟩) (c := S (X ++ x.name.data.toList ++ [32])) (S_append _ [32]) (by rw [S_sizeE]; simp at hnl ⊢; omega) W
   have r3 := fun W => add_asE (P := Tryz.prog) (a := S (X ++ x.name.data.toList ++ [32])) (b := S x.v.show) (c := S (X ++ x.name.data.toList ++ [32] ++ x.v.show)) (S_append _ _) (by rw [S_sizeE]; simp at hnl ⊢; omega) W
   have r4 := fun W => add_asE (P := Tryz.prog) (a := S (X ++ x.name.data.toList ++ [32] ++ x.v.show)) (b := ⟨#[10]⟩) (c := S (X ++ x.name.data.toList ++ [32] ++ x.v.show ++ [10])) (S_append _ [10]) (by rw [S_sizeE]; simp at hnl ⊢; omega) W
   have HT : Hid (X ++ x.name.data.toList ++ [32] ++ x.v.show ++ [10] = X ++ pikT x) := by show _ = _; rw [pikT_eq]; simp
   rw [HT.out] at r4
   generalize S (X ++ x.name.data.toList ++ [32] ++ x.v.show) = A3 at r3 r4
   generalize S (X ++ x.name.data.toList ++ [32]) = A2 at r2 r3
   generalize S (X ++ x.name.data.toList) = A1 at r1 r2
   clear hr hok hnl
   go_wp2_with fail
   refine (HNm.out _).mono ?_
   rintro e w5 ⟨rfl, hb5⟩
   have HB5 := Lib.hid (below_then HB4.out hb5)
   have d1 := cell_on d0 hb5
   clear hb5 d0
   go_wp2_with fail
   go_roundw
   case rel => exact ⟨k + 1, _, hlt, by go_num, rfl, HNy.out.2, HNy.out.1, HB5.out⟩
   case measure => simp [intOf]; omega
  ·have i1 : decide (k < ps.length) = false := decide_eq_false hlt
   have hallB : ps.all Pik.ok = true := List.all_eq_true.2 fun x hx => by
    obtain ⟨j, hj, rfl⟩ := List.getElem_of_mem hx
    exact HA.out j hj (by omega)
   have HF := Lib.hid (show_ok hallB)
   have hX2 := HXe.out
   rw [List.take_of_length_le (by omega)] at hX2
   subst hX2
   clear hlt hallB hb
   go_wp2_with fail
   go_ret2
   exact ⟨by rw [HF.out.1, HF.out.2]; rfl, HB.out⟩
end Go.Proofs.YtbgimpeklblcjaaGreatDoor
