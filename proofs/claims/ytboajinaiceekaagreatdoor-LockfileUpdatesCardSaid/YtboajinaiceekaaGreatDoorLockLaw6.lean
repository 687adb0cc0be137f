/- Locks: from any lock to any other one the document's lines lead: the law, walked. -/
import Derived.Test.YtboajinaiceekaaGreatDoorLockAwake
import Derived.Test.YtboajinaiceekaaGreatDoorLockRef5
namespace Go.Proofs.YtboajinaiceekaaGreatDoor
open Go.RowKit
theorem rupdate_as (v u : Value) (ps qs : List Pik) (A : ByteArray) (er : Int) (h : updShow ps qs = (A.data.toList, er)) (w : World) (hv : Piks w v ps) (hu : Piks w u qs) (hp : ∀ x ∈ ps, x.v.p.size ≤ 300) (hq : ∀ x ∈ qs, x.v.p.size ≤ 300) :
    Calls Tryz.prog 17 #[v, u] w fun e w' => e = .returned (.tuple #[.string A, .int .i64 er]) ∧ Below w.heap.size w w' := by
  have := rupdate_any v u ps qs w hv hu hp hq
  rw [h] at this
  exact this
set_option maxRecDepth 100000 in
set_option maxHeartbeats 4000000 in
theorem updates_any (v u : Value) (l m : List Pik) (w : World) (hv : Piks w v l) (hu : Piks w u m) (hE : Env w) :
    Calls Tryz.prog 5 #[v, u] w fun e w' => e = .returned (.bool true) ∧ Below w.heap.size w w' := by
  obtain ⟨a1, c1, rfl⟩ := hv.len
  obtain ⟨a2, c2, rfl⟩ := hu.len
  have HE := Lib.hid hE
  have HAw := Lib.hid (fun W hW => awake_any W hW)
  obtain ⟨l1, hl1⟩ : ∃ b, lightP l = b := ⟨_, rfl⟩
  have HL1 := light_any (.slice a1 l.length c1) l w hv
  rw [hl1] at HL1
  have HL1 := Lib.hid HL1
  cases l1
  · clear hv hu hE hl1
    go_enter Tryz.func5, Tryz.ntmps5
    go_wp2_with fail
    refine HL1.out.mono ?_
    rintro e w1 ⟨rfl, rfl⟩
    go_wp2_with fail
    refine (HAw.out _ HE.out).mono ?_
    rintro e w2 ⟨rfl, hb2⟩
    go_wp2_with fail
    go_ret
    exact ⟨rfl, hb2⟩
  obtain ⟨l2, hl2⟩ : ∃ b, lightP m = b := ⟨_, rfl⟩
  have HL2 := light_any (.slice a2 m.length c2) m w hu
  rw [hl2] at HL2
  have HL2 := Lib.hid HL2
  cases l2
  · clear hv hu hE hl1 hl2
    go_enter Tryz.func5, Tryz.ntmps5
    go_wp2_with fail
    refine HL1.out.mono ?_
    rintro e w1 ⟨rfl, rfl⟩
    go_wp2_with fail
    refine HL2.out.mono ?_
    rintro e w1 ⟨rfl, rfl⟩
    go_wp2_with fail
    refine (HAw.out _ HE.out).mono ?_
    rintro e w2 ⟨rfl, hb2⟩
    go_wp2_with fail
    go_ret
    exact ⟨rfl, hb2⟩
  have hz1 := (lightP_sz hl1).2
  have hz2 := (lightP_sz hl2).2
  obtain ⟨A, er, hA⟩ : ∃ A er, updShow l m = (A, er) := ⟨_, _, rfl⟩
  obtain ⟨B, hB⟩ : ∃ B, S A = B := ⟨_, rfl⟩
  have hAB : updShow l m = (B.data.toList, er) := by rw [hA, ← hB]; rfl
  have HS1 : Hid (∀ W, Below w.heap.size w W → Calls Tryz.prog 16 #[.slice a1 l.length c1, .slice a2 m.length c2] W fun e w' => e = .returned (.tuple #[.string B, .int .i64 er]) ∧ Below w.heap.size w w') := fun W hW =>
    (update_as _ _ l m B er hAB W (hv.below hW (Nat.le_refl _)) (hu.below hW (Nat.le_refl _)) (hE.below hW) hz1 hz2).mono fun _ _ ⟨h1, h2⟩ => ⟨h1, below_then hW h2⟩
  have HS2 : Hid (∀ W, Below w.heap.size w W → Calls Tryz.prog 17 #[.slice a1 l.length c1, .slice a2 m.length c2] W fun e w' => e = .returned (.tuple #[.string B, .int .i64 er]) ∧ Below w.heap.size w w') := fun W hW =>
    (rupdate_as _ _ l m B er hAB W (hv.below hW (Nat.le_refl _)) (hu.below hW (Nat.le_refl _)) hz1 hz2).mono fun _ _ ⟨h1, h2⟩ => ⟨h1, below_then hW h2⟩
  have q1 : (B.toList == B.toList) = true := beq_self_eq_true _
  have q2 : (er == er) = true := beq_self_eq_true _
  clear hv hu hE hl1 hl2 hz1 hz2 hA hB hAB
  go_enter Tryz.func5, Tryz.ntmps5
  go_wp2_with fail
  refine HL1.out.mono ?_
  rintro e w1 ⟨rfl, rfl⟩
  go_wp2_with fail
  refine HL2.out.mono ?_
  rintro e w1 ⟨rfl, rfl⟩
  go_wp2_with fail
  refine (HS1.out _ (Below.refl _ _)).mono ?_
  rintro e w2 ⟨rfl, hb2⟩
  go_wp2_with fail
  refine (HS2.out _ hb2).mono ?_
  rintro e w3 ⟨rfl, hb3⟩
  go_wp2_with fail
  refine (HAw.out _ (HE.out.below hb3)).mono ?_
  rintro e w4 ⟨rfl, hb4⟩
  have hb5 := below_then hb3 hb4
  go_wp2_with fail
  go_ret
  exact ⟨rfl, hb5⟩
end Go.Proofs.YtboajinaiceekaaGreatDoor
