/- Locks: any picks are written, any text is read, as the document says: the laws, walked. -/
import Derived.Test.YtboajinaiceekaaGreatDoorLockAwake
import Derived.Test.YtboajinaiceekaaGreatDoorLockRef4
namespace Go.Proofs.YtboajinaiceekaaGreatDoor
open Go.RowKit
theorem rlshow_as (v : Value) (ps : List Pik) (A : ByteArray) (er : Int) (h : lockShow ps = (A.data.toList, er)) (w : World) (hv : Piks w v ps) (hp : ∀ x ∈ ps, x.v.p.size ≤ 300) :
    Calls Tryz.prog 12 #[v] w fun e w' => e = .returned (.tuple #[.string A, .int .i64 er]) ∧ Below w.heap.size w w' := by
  have := rlshow_any v ps w hv hp
  rw [h] at this
  exact this
set_option maxRecDepth 100000 in
set_option maxHeartbeats 4000000 in
theorem shows_any (v : Value) (l : List Pik) (w : World) (hv : Piks w v l) (hE : Env w) :
    Calls Tryz.prog 3 #[v] w fun e w' => e = .returned (.bool true) ∧ Below w.heap.size w w' := by
  obtain ⟨a0, cap0, rfl⟩ := hv.len
  have HE := Lib.hid hE
  have HAw := Lib.hid (fun W hW => awake_any W hW)
  obtain ⟨li, hli⟩ : ∃ b, lightP l = b := ⟨_, rfl⟩
  have HLi := light_any (.slice a0 l.length cap0) l w hv
  rw [hli] at HLi
  have HLi := Lib.hid HLi
  cases li
  · clear hv hE hli
    go_enter Tryz.func3, Tryz.ntmps3
    go_wp2_with fail
    refine HLi.out.mono ?_
    rintro e w1 ⟨rfl, rfl⟩
    go_wp2_with fail
    refine (HAw.out _ HE.out).mono ?_
    rintro e w2 ⟨rfl, hb2⟩
    go_wp2_with fail
    go_ret
    exact ⟨rfl, hb2⟩
  have hsz := (lightP_sz hli).2
  obtain ⟨A, er, hA⟩ : ∃ A er, lockShow l = (A, er) := ⟨_, _, rfl⟩
  obtain ⟨B, hB⟩ : ∃ B, S A = B := ⟨_, rfl⟩
  have hAB : lockShow l = (B.data.toList, er) := by rw [hA, ← hB]; rfl
  have HS1 : Hid (∀ W, Below w.heap.size w W → Calls Tryz.prog 11 #[.slice a0 l.length cap0] W fun e w' => e = .returned (.tuple #[.string B, .int .i64 er]) ∧ Below w.heap.size w w') := fun W hW =>
    (lshow_as _ l B er hAB W (hv.below hW (Nat.le_refl _)) (hE.below hW) hsz).mono fun _ _ ⟨h1, h2⟩ => ⟨h1, below_then hW h2⟩
  have HS2 : Hid (∀ W, Below w.heap.size w W → Calls Tryz.prog 12 #[.slice a0 l.length cap0] W fun e w' => e = .returned (.tuple #[.string B, .int .i64 er]) ∧ Below w.heap.size w w') := fun W hW =>
    (rlshow_as _ l B er hAB W (hv.below hW (Nat.le_refl _)) hsz).mono fun _ _ ⟨h1, h2⟩ => ⟨h1, below_then hW h2⟩
  have q1 : (B.toList == B.toList) = true := beq_self_eq_true _
  have q2 : (er == er) = true := beq_self_eq_true _
  clear hv hE hli hsz hA hB hAB
  go_enter Tryz.func3, Tryz.ntmps3
  go_wp2_with fail
  refine HLi.out.mono ?_
  rintro e w1 ⟨rfl, rfl⟩
  go_wp2_with fail
  refine (HS1.out _ (Below.refl _ _)).mono ?_
  rintro e w2 ⟨rfl, hb2⟩
  go_wp2_with fail
  refine (HS2.out _ hb2).mono ?_
  rintro e w3 ⟨rfl, hb3⟩
  go_wp2_with fail
  refine (HAw.out _ (HE.out.below hb3)).mono ?_
  rintro e w4 ⟨rfl, hb4⟩
  have hb5 := below_then hb3 hb4
  go_wp2_with fail
  go_ret
  exact ⟨rfl, hb5⟩
set_option maxRecDepth 100000 in
set_option maxHeartbeats 4000000 in
theorem parses_any (s : ByteArray) (w : World) (hE : Env w) :
    Calls Tryz.prog 4 #[.string s] w fun e w' => e = .returned (.bool true) ∧ Below w.heap.size w w' := by
  have HE := Lib.hid hE
  have HAw := Lib.hid (fun W hW => awake_any W hW)
  by_cases hs : 20000 < s.size
  · have q : decide (20000 < (s.size : Int)) = true := decide_eq_true (by omega)
    have q' : decide (20000 < s.size) = true := decide_eq_true hs
    clear hE hs
    go_enter Tryz.func4, Tryz.ntmps4
    go_wp2_with fail
    refine (HAw.out _ HE.out).mono ?_
    rintro e w2 ⟨rfl, hb2⟩
    go_wp2_with fail
    go_ret
    exact ⟨rfl, hb2⟩
  have q : decide (20000 < (s.size : Int)) = false := decide_eq_false (by omega)
  have q' : decide (20000 < s.size) = false := decide_eq_false hs
  have HP1 := Lib.hid (fun W hW => lparse_any s W hW (by omega))
  have HP2 := Lib.hid (fun W => rlparse_any s W (by omega))
  clear hE hs
  go_enter Tryz.func4, Tryz.ntmps4
  go_wp2_with fail
  refine (HP1.out _ HE.out).mono ?_
  rintro e w1 ⟨v1, l1, e1, rfl, hp1, hl1, _, hb1⟩
  obtain ⟨a1, c1, rfl⟩ := hp1.len
  have HX1 := Lib.hid hp1
  have HL1 := Lib.hid hl1
  clear hp1 hl1
  go_wp2_with fail
  refine (HP2.out _).mono ?_
  rintro e w2 ⟨v2, l2, e2, rfl, hp2, hl2, _, hb2⟩
  obtain ⟨rfl, rfl⟩ := HL1.out.uniq hl2
  obtain ⟨a2, c2, rfl⟩ := hp2.len
  have HSm := Lib.hid (same_self (.slice a1 l1.length c1) (.slice a2 l1.length c2) l1 w2 (HX1.out.below hb2 (Nat.le_refl _)) hp2)
  have hb3 := below_then hb1 hb2
  have q2 : (e1 == e1) = true := beq_self_eq_true _
  clear hp2 hl2 hb1 hb2
  go_wp2_with fail
  refine HSm.out.mono ?_
  rintro e w3 ⟨rfl, hb4⟩
  have hb5 := below_then hb3 hb4
  clear hb3 hb4
  go_wp2_with fail
  refine (HAw.out _ (HE.out.below hb5)).mono ?_
  rintro e w4 ⟨rfl, hb6⟩
  have hb7 := below_then hb5 hb6
  go_wp2_with fail
  go_ret
  exact ⟨rfl, hb7⟩
end Go.Proofs.YtboajinaiceekaaGreatDoor
