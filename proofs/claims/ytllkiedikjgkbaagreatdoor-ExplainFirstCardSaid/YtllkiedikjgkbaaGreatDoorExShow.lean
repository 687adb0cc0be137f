/- Explain: picks written: the walk of Show. -/
import Derived.Test.YtllkiedikjgkbaaGreatDoorExNeed
import Derived.Test.YtllkiedikjgkbaaGreatDoorChOffers
import Derived.Test.YtllkiedikjgkbaaGreatDoorChCounts
import Derived.Test.YtllkiedikjgkbaaGreatDoorLex1
namespace Go
open Go.RowKit
/-- what Show tells -/
def showT (ps : List Pik) : ByteArray := if ps.all Pik.ok = true then S (ps.flatMap pikT) else ⟨#[]⟩
def showE (ps : List Pik) : Int := if ps.all Pik.ok = true then 0 else 2
theorem show_ok {ps : List Pik} (h : ps.all Pik.ok = true) : showT ps = S (ps.flatMap pikT) ∧ showE ps = 0 := ⟨if_pos h, if_pos h⟩
theorem show_bad {ps : List Pik} {x : Pik} (hx : x ∈ ps) (h : Pik.ok x = false) : showT ps = ⟨#[]⟩ ∧ showE ps = 2 := by
  have : ¬ ps.all Pik.ok = true := fun ha => by
    have := List.all_eq_true.1 ha x hx
    rw [h] at this; cases this
  exact ⟨if_neg this, if_neg this⟩
theorem pok_parts {x : Pik} (h : Pik.ok x = true) : x.nm.length ≤ 100 ∧ x.v.ok = true := by
  unfold Pik.ok at h
  rw [Bool.and_eq_true] at h
  exact ⟨by have := (name_len h.1).2.1; omega, h.2⟩
end Go
namespace Go.Proofs.YtllkiedikjgkbaaGreatDoor
open Go.RowKit Go.Maps
def EsRel (ps : List Pik) (w : World) (i : Value) (wr : World) : Prop :=
  ∃ k : Nat, k ≤ ps.length ∧ i = .int .i64 (k : Int) ∧ (∀ j (h : j < ps.length), j < k → Pik.ok ps[j] = true) ∧ Below w.heap.size w wr
set_option maxRecDepth 100000 in
set_option maxHeartbeats 4000000 in
theorem exShow_any (v : Value) (ps : List Pik) (w : World) (hp : Piks w v ps) (hE : EnvI w) (hs : ∀ x ∈ ps, x.v.p.size ≤ 300) (hn : ps.length ≤ 1000) :
    Calls Tryz.prog 39 #[v] w fun e w' => e = .returned (.tuple #[.string (showT ps), .int .i64 (showE ps)]) ∧ Below w.heap.size w w' := by
  obtain ⟨a0, cap0, rfl⟩ := hp.len
  have HP := Lib.hid hp
  have HE := Lib.hid hE
  have HS := Lib.hid hs
  clear hp hE hs
  go_enter Tryz.func39, Tryz.ntmps39
  go_wp2_with fail
  go_loopw [8] (fun i wr => EsRel ps w i wr) (fun i _ => ps.length - (intOf i).toNat)
  case atStart => exact ⟨0, Nat.zero_le _, rfl, fun j _ h => absurd h (Nat.not_lt_zero _), Below.refl _ _⟩
  case round =>
    obtain ⟨k, hk, rfl, hall, hb⟩ := hrel
    have HA := Lib.hid hall
    have HB := Lib.hid hb
    clear hall
    by_cases hlt : k < ps.length
    · have i0 : (0 : Int) ≤ (k : Int) := by omega
      have i1 : (k : Int) < (ps.length : Int) := by omega
      obtain ⟨bx, ox, rfl, hbx, hcp⟩ := HP.out.row hb hlt
      obtain ⟨c0, c1, c2, c3, c4⟩ := hcp k hlt
      have HM := Lib.hid (List.getElem_mem hlt)
      have HNx : Hid (Pik.ok ps[k] = true → ∀ j (h : j < ps.length), j < k + 1 → Pik.ok ps[j] = true) := by
        show _ → ∀ _, _
        intro h0 j hj hjk
        rcases Nat.lt_succ_iff_lt_or_eq.1 hjk with h | rfl
        · exact HA.out j hj h
        · exact h0
      generalize (ps[k]'hlt) = x at c0 c1 c2 c3 c4 HM HNx
      have hwk : IntKind.i64.wrap ((k : Int) + 1) = (k : Int) + 1 := by rw [IntKind.wrap_i64]; omega
      have hal := (Below.refl wr.heap.size wr).alloc (Nat.le_refl _) (.cells #[.string x.name, .int .i64 x.v.a, .int .i64 x.v.b, .int .i64 x.v.c, .string x.v.p] 45)
      have hx1 := Below.refl (wr.heap.size + 1) (wr.alloc (.cells #[.string x.name, .int .i64 x.v.a, .int .i64 x.v.b, .int .i64 x.v.c, .string x.v.p] 45))
      have d0 := box_cells hx1 0
      have d1 := box_cells hx1 1
      have d2 := box_cells hx1 2
      have d3 := box_cells hx1 3
      have d4 := box_cells hx1 4
      simp only [List.getElem?_toArray, List.getElem?_cons_zero, List.getElem?_cons_succ] at d0 d1 d2 d3 d4
      have HBa := Lib.hid (below_then hb hal)
      obtain ⟨r, hr⟩ : ∃ r, nameOk x.name.data.toList = r := ⟨_, rfl⟩
      have HNm := Lib.hid (fun W => lname_as x.name r hr W)
      have HR := Lib.hid hr
      clear hcp hal hx1 hb hr
      go_wp2_with fail
      refine (HNm.out _).mono ?_
      rintro e w2 ⟨rfl, rfl⟩
      cases r
      case false =>
        have HF := Lib.hid (show_bad HM.out (by unfold Pik.ok; rw [show nameOk x.nm = false from HR.out]; rfl))
        clear d0 d1 d2 d3 d4 c0 c1 c2 c3 c4
        go_wp2_with fail
        go_ret2
        exact ⟨by rw [HF.out.1, HF.out.2]; rfl, HBa.out⟩
      obtain ⟨q, hq⟩ : ∃ q, x.v.ok = q := ⟨_, rfl⟩
      have HQ := Lib.hid hq
      cases q
      case false =>
        have HCk := Lib.hid (checkO_as x.v 40 (by rw [hq]; rfl) _ (HE.out.env.below HBa.out) (HS.out x HM.out))
        have HF := Lib.hid (show_bad HM.out (by unfold Pik.ok; rw [hq, Bool.and_false]))
        clear hq
        go_wp2_with fail
        refine HCk.out.mono ?_
        rintro e w3 ⟨rfl, hb3⟩
        have HB3 := Lib.hid (below_then HBa.out hb3)
        clear hb3
        go_wp2_with fail
        go_ret2
        exact ⟨by rw [HF.out.1, HF.out.2]; rfl, HB3.out⟩
      have HCk := Lib.hid (checkO_as x.v 0 (by rw [hq]; rfl) _ (HE.out.env.below HBa.out) (HS.out x HM.out))
      have HNy := Lib.hid (HNx.out (by unfold Pik.ok; rw [hq, show nameOk x.nm = true from HR.out]; rfl))
      clear hq
      go_wp2_with fail
      refine HCk.out.mono ?_
      rintro e w3 ⟨rfl, hb3⟩
      have HB3 := Lib.hid (below_then HBa.out hb3)
      clear hb3 d0 d1 d2 d3 d4 c0 c1 c2 c3 c4
      go_wp2_with fail
      go_roundw
      case rel => exact ⟨k + 1, hlt, by go_num, HNy.out, HB3.out⟩
      case measure => simp [intOf]; omega
    · have i1 : decide (k < ps.length) = false := decide_eq_false hlt
      have hall : ps.all Pik.ok = true := List.all_eq_true.2 fun x hx => by
        obtain ⟨j, hj, rfl⟩ := List.getElem_of_mem hx
        exact HA.out j hj (by omega)
      have hok : ∀ x ∈ ps, Pik.ok x = true := List.all_eq_true.1 hall
      have HF := Lib.hid (show_ok hall)
      have hlen : (ps.flatMap pikT).length ≤ 1000000000 := by
        have := flat_len (f := pikT) (m := 300) ps (fun x hx => pikT_len (pok_parts (hok x hx)).1 (pok_parts (hok x hx)).2)
        omega
      have HLn := Lib.hid (linesPick_any ps _ _ wr (HP.out.below hb (Nat.le_refl _)) (fun x hx W hW => pickT_any x W (HE.out.below (below_then hb hW)) (pok_parts (hok x hx)).1 (pok_parts (hok x hx)).2) hlen (by omega))
      clear hlt hall hok hlen hb
      go_wp2_with fail
      refine HLn.out.mono ?_
      rintro e w4 ⟨rfl, hb4⟩
      have HB4 := Lib.hid (below_then HB.out hb4)
      clear hb4
      go_wp2_with fail
      go_ret2
      exact ⟨by rw [HF.out.1, HF.out.2]; rfl, HB4.out⟩
end Go.Proofs.YtllkiedikjgkbaaGreatDoor
