/- ExplainShows: picks are written as the reference writes them. The law returns true. -/
import Derived.Test.YtbgimpeklblcjaaGreatDoorExRSh
import Derived.Test.YtbgimpeklblcjaaGreatDoorExTells
namespace Go.Proofs.YtbgimpeklblcjaaGreatDoor
open Go.RowKit Go.Maps
def EssRel (ps : List Pik) (w : World) (i : Value) (wr : World) : Prop :=
 ∃ k : Nat, k ≤ ps.length ∧ i = .int .i64 (k : Int) ∧ (∀ j (h : j < ps.length), j < k → ps[j].v.p.size ≤ 300) ∧ Below w.heap.size w wr
set_option maxRecDepth 100000 in
set_option maxHeartbeats 4000000 in
theorem explainShows_any (v : Value) (ps : List Pik) (w : World) (hp : Piks w v ps) (hE : EnvI w) :
  Calls Tryz.prog 5 #[v] w fun e w' => e = .returned (.bool true) ∧ Below w.heap.size w w' := by
 obtain ⟨a0, cap0, rfl⟩ := hp.len
 have hmx : ps.length ≤ 9223372036854775807 := Nat.le_trans hp.2.1 (by decide)
 have HP := Lib.hid hp
 have HE := Lib.hid hE
 have HA : Hid (∀ W, Below w.heap.size w W → Calls Tryz.prog 10 #[] W fun e w' => e = .returned (.bool true) ∧ Below W.heap.size W w') := fun W hW => exAwake_any W (HE.out.below hW)
 clear hp hE
 by_cases ga : 200 < ps.length
 ·have qa : decide ((200 : Int) < (ps.length : Int)) = true := decide_eq_true (by omega)
  have qa2 : decide (200 < ps.length) = true := decide_eq_true ga
  clear ga
  go_enter Tryz.func5, Tryz.ntmps5
  go_wp2_with fail
  refine (HA.out _ (Below.refl _ _)).mono ?_
  rintro e wz ⟨rfl, hbz⟩
  go_wp2_with fail
  go_ret
  exact ⟨rfl, hbz⟩
 have qa : decide ((200 : Int) < (ps.length : Int)) = false := decide_eq_false (by omega)
 have qa2 : decide (200 < ps.length) = false := decide_eq_false ga
 have hn : ps.length ≤ 200 := by omega
 have HN := Lib.hid hn
 clear ga
 go_enter Tryz.func5, Tryz.ntmps5
 go_wp2_with fail
 go_loopw [3] (fun i wr => EssRel ps w i wr) (fun i _ => ps.length - (intOf i).toNat)
 case atStart => exact ⟨0, Nat.zero_le _, rfl, fun j _ h => absurd h (Nat.not_lt_zero _), Below.refl _ _⟩
 case round =>
  obtain ⟨k, hk, rfl, hall, hb⟩ := hrel
  have HAl := Lib.hid hall
  have HB := Lib.hid hb
  clear hall
  by_cases hlt : k < ps.length
  ·have i0 : (0 : Int) ≤ (k : Int) := by omega
   have i1 : (k : Int) < (ps.length : Int) := by omega
   obtain ⟨bx, ox, rfl, hbx, hcp⟩ := HP.out.row hb hlt
   obtain ⟨c0, c1, c2, c3, c4⟩ := hcp k hlt
   have hwk : IntKind.i64.wrap ((k : Int) + 1) = (k : Int) + 1 := by rw [IntKind.wrap_i64]; omega
   by_cases g : 300 < ps[k].v.p.size
   ·generalize (ps[k]'hlt) = x at c0 c1 c2 c3 c4 g
    have qc : decide ((300 : Int) < (x.v.p.size : Int)) = true := decide_eq_true (by omega)
    have qc2 : decide (300 < x.v.p.size) = true := decide_eq_true g
    clear g hcp hb
    go_wp2_with fail
    refine (HA.out _ HB.out).mono ?_
    rintro e wz ⟨rfl, hbz⟩
    have HF := Lib.hid (below_then HB.out hbz)
    clear hbz c0 c1 c2 c3 c4
    go_wp2_with fail
    go_ret
    exact ⟨rfl, HF.out⟩
   ·have HNx : Hid (∀ j (h : j < ps.length), j < k + 1 → ps[j].v.p.size ≤ 300) := by
     show ∀ _, _
     intro j hj hjk
     rcases Nat.lt_succ_iff_lt_or_eq.1 hjk with h | rfl
     ·exact HAl.out j hj h
     ·omega
    generalize (ps[k]'hlt) = x at c0 c1 c2 c3 c4 g
    have qc : decide ((300 : Int) < (x.v.p.size : Int)) = false := decide_eq_false (by omega)
    have qc2 : decide (300 < x.v.p.size) = false := decide_eq_false g
    clear g hcp hb
    go_wp2_with fail
    go_roundw
    case rel => exact ⟨k + 1, hlt, by go_num, HNx.out, HB.out⟩
    case measure => simp [intOf]; omega
  ·have i1 : decide (k < ps.length) = false := decide_eq_false hlt
   have hs : ∀ x ∈ ps, x.v.p.size ≤ 300 := fun x hx => by
    obtain ⟨j, hj, rfl⟩ := List.getElem_of_mem hx
    exact HAl.out j hj (by omega)
   have HS := Lib.hid hs
   have HSh := Lib.hid (exShow_any (.slice a0 ps.length cap0) ps wr (HP.out.below hb (Nat.le_refl _)) (HE.out.below hb) hs (by omega))
   clear hlt hb hs
   go_wp2_with fail
   refine HSh.out.mono ?_
   rintro e w4 ⟨rfl, hb4⟩
   have hb5 := below_then HB.out hb4
   have HB5 := Lib.hid hb5
   have HRs := Lib.hid (rexShow_any (.slice a0 ps.length cap0) ps w4 (HP.out.below hb5 (Nat.le_refl _)) HS.out (by have := HN.out; omega))
   clear hb4 hb5
   go_wp2_with fail
   refine HRs.out.mono ?_
   rintro e w6 ⟨rfl, hb6⟩
   have HB6 := Lib.hid (below_then HB5.out hb6)
   clear hb6
   have q1 : ((showT ps).toList == (showT ps).toList) = true := beq_self_eq_true _
   have q2 : (showE ps == showE ps) = true := beq_self_eq_true _
   go_wp2_with fail
   refine (HA.out _ HB6.out).mono ?_
   rintro e wz ⟨rfl, hbz⟩
   have HF := Lib.hid (below_then HB6.out hbz)
   clear hbz
   go_wp2_with fail
   go_ret
   exact ⟨by simp, HF.out⟩
end Go.Proofs.YtbgimpeklblcjaaGreatDoor
