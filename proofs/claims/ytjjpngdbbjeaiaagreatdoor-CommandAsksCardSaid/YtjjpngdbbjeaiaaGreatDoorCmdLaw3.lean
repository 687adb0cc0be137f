/- CommandAsks: the walk. -/
import Derived.Test.YtjjpngdbbjeaiaaGreatDoorCmdAwake
import Derived.Test.YtjjpngdbbjeaiaaGreatDoorCmdRef5
import Derived.Test.YtjjpngdbbjeaiaaGreatDoorCmdSame
namespace Go.Proofs.YtjjpngdbbjeaiaaGreatDoor
open Go.RowKit
set_option maxRecDepth 100000 in
set_option maxHeartbeats 1000000 in
theorem commandAsks_walk (s : ByteArray) (w : World) (hE : Env w) :
    Calls Tryz.prog 10 #[.string s] w fun e w' => e = .returned (.bool true) ∧ Below w.heap.size w w' := by
  have HE := Lib.hid hE
  clear hE
  by_cases hbig : 9000 < s.size
  · have q : decide ((9000 : Int) < (s.size : Int)) = true := by simp; omega
    clear hbig
    go_enter Tryz.func10, Tryz.ntmps10
    go_wp2_with fail
    refine (awake_any _ HE.out).mono ?_
    rintro e w9 ⟨rfl, hb9⟩
    go_wp2_with fail
    go_ret
    exact ⟨rfl, hb9⟩
  have q : decide ((9000 : Int) < (s.size : Int)) = false := by simp; omega
  have hs : s.size ≤ 9000 := by omega
  clear hbig
  go_enter Tryz.func10, Tryz.ntmps10
  go_wp2_with fail
  refine (asks_any s _ HE.out (by omega)).mono ?_
  rintro e w1 ⟨vn, vp, ns, ps, er, rfl, hn, hp, ⟨na, nc, rfl⟩, ⟨pa, pc, rfl⟩, hx, hb1⟩
  have HN := Lib.hid hn
  have HP := Lib.hid hp
  have HX := Lib.hid hx
  clear hn hp hx
  go_wp2_with fail
  refine (rasks_any s _ (by omega)).mono ?_
  rintro e w2 ⟨vn', vp', ns', ps', er', rfl, hn', hp', ⟨na', nc', rfl⟩, ⟨pa', pc', rfl⟩, hx', hb2⟩
  have hsame : er = er' ∧ ps' = ps ∧ ns.map Prod.fst = ns'.map Prod.fst := by
    rcases HX.out with ⟨h1, h2⟩ | ⟨h1, h2, h3, h4⟩ <;> rcases hx' with ⟨g1, g2⟩ | ⟨g1, g2, g3, g4⟩
    · rw [h2] at g2
      injection g2 with g2
      injection g2 with g3 g4
      exact ⟨by rw [h1, g1], g4.symm, g3⟩
    · rw [h2] at g2; cases g2
    · rw [h2] at g2; cases g2
    · exact ⟨by rw [h1, g1], by rw [h4, g4], by rw [h3, g3]⟩
  obtain ⟨rfl, rfl, hnn⟩ := hsame
  have HNN := Lib.hid hnn
  have HN' := Lib.hid hn'
  have HP' := Lib.hid hp'
  have hb3 := below_then hb1 hb2
  have HN2 := Lib.hid (HN.out.below hb2 (Nat.le_refl _))
  have HP2 := Lib.hid (HP.out.below hb2 (Nat.le_refl _))
  have q2 : (er == er) = true := beq_self_eq_true _
  clear hnn hn' hp' hx'
  go_wp2_with fail
  refine (sameNeeds_self _ _ ns ns' _ HN2.out ⟨_, _, rfl⟩ HN'.out ⟨_, _, rfl⟩ HNN.out).mono ?_
  rintro e w4 ⟨rfl, hb4⟩
  have hb5 := below_then hb3 hb4
  go_wp2_with fail
  refine (samePicks_self _ _ ps' _ (HP2.out.below hb4 (Nat.le_refl _)) ⟨_, _, rfl⟩ (HP'.out.below hb4 (Nat.le_refl _)) ⟨_, _, rfl⟩).mono ?_
  rintro e w6 ⟨rfl, hb6⟩
  have hb7 := below_then hb5 hb6
  go_wp2_with fail
  refine (awake_any _ (HE.out.below hb7)).mono ?_
  rintro e w9 ⟨rfl, hb9⟩
  go_wp2_with fail
  go_ret
  exact ⟨rfl, below_then hb7 hb9⟩
end Go.Proofs.YtjjpngdbbjeaiaaGreatDoor
