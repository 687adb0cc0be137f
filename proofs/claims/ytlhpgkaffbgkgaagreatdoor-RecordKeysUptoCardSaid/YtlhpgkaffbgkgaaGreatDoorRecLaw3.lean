/- The laws of layer 22: RecordKeys: a walk. -/
import Derived.Test.YtlhpgkaffbgkgaaGreatDoorRecAwake
import Derived.Test.YtlhpgkaffbgkgaaGreatDoorRecRef5
namespace Go
/-- some bytes are a key, or none -/
theorem key_is (l : List UInt8) : ∃ n v is e, KeyIs l n v is e := by
  by_cases h1 : ∃ m, nameOk m = true ∧ l = ownL m
  · obtain ⟨m, a, b⟩ := h1
    exact ⟨m, V4.zero, false, 0, keyIs_own b a⟩
  · by_cases h2 : ∃ (m : List UInt8) (x : V4) (t : List UInt8), nameOk m = true ∧ x.IsShow t ∧ l = relL m t
    · obtain ⟨m, x, t, a, b, c⟩ := h2
      exact ⟨m, x, true, 0, keyIs_rel c a b⟩
    · exact ⟨[], V4.zero, false, 220, keyIs_no (fun m a b => h1 ⟨m, a, b⟩) (fun m x t a b c => h2 ⟨m, x, t, a, b, c⟩)⟩
end Go
namespace Go.Proofs.YtlhpgkaffbgkgaaGreatDoor
open Go.RowKit
theorem ownerKey_as (n : ByteArray) (t : List UInt8) (e0 : Int) (h : ownKey n.data.toList = (t, e0)) (w : World) : Calls Tryz.prog 13 #[.string n] w fun e w' => e = .returned (.tuple #[.string (S t), .int .i64 e0]) ∧ w' = w := by
  have := ownerKey_any n w
  rw [h] at this
  exact this
theorem rreadKey_as (s : ByteArray) (n : List UInt8) (v : V4) (is : Bool) (e0 : Int) (h : KeyIs s.data.toList n v is e0) (w : World) :
    Calls Tryz.prog 18 #[.string s] w fun e w' => e = .returned (.tuple #[.string (S n), .agg #[.int .i64 v.a, .int .i64 v.b, .int .i64 v.c, .string v.p], .bool is, .int .i64 e0]) ∧ Below w.heap.size w w' := by
  refine (rreadKey_any s w).mono ?_
  rintro e w' ⟨n', v', is', e', he, hi, hb⟩
  obtain ⟨rfl, rfl, rfl, rfl⟩ := KeyIs.uniq hi h
  exact ⟨he, hb⟩
set_option maxRecDepth 100000 in
set_option maxHeartbeats 2000000 in
theorem recordKeys_walk (n : ByteArray) (a b c : Int) (p key : ByteArray) (w : World) (hE : REnv w) (hs : p.size ≤ 9223372036854775807) (hk : key.size < 4294967281) :
    Calls Tryz.prog 6 #[.string n, .agg #[.int .i64 a, .int .i64 b, .int .i64 c, .string p], .string key] w fun e w' => e = .returned (.bool true) ∧ Below w.heap.size w w' := by
  have HE := Lib.hid hE
  have hW := (Below.refl w.heap.size w).alloc (Nat.le_refl _) (.cells #[.int .i64 a, .int .i64 b, .int .i64 c, .string p] 23)
  have hx0 := Below.refl (w.heap.size + 1) (w.alloc (.cells #[.int .i64 a, .int .i64 b, .int .i64 c, .string p] 23))
  clear hE
  by_cases hbig : 300 < p.size
  · have q : decide ((300 : Int) < (p.size : Int)) = true := by simp; omega
    clear hbig
    go_enter Tryz.func6, Tryz.ntmps6
    go_wp2_with fail
    refine (awake_any _ (HE.out.below hW)).mono ?_
    rintro e w1 ⟨rfl, hb1⟩
    go_wp2_with fail
    go_ret
    exact ⟨rfl, below_then hW hb1⟩
  have q : decide ((300 : Int) < (p.size : Int)) = false := by simp; omega
  obtain ⟨l1, e1, h1⟩ : ∃ l e, ownKey n.data.toList = (l, e) := ⟨_, _, rfl⟩
  obtain ⟨l2, e2, h2⟩ : ∃ l e, relKey n.data.toList ⟨a, b, c, p⟩ = (l, e) := ⟨_, _, rfl⟩
  obtain ⟨n3, ⟨a3, b3, c3, p3⟩, i3, e3, h3⟩ := key_is key.data.toList
  have H1 := fun w => ownerKey_as n l1 e1 h1 w
  have R1 := fun w => rownerKey_as n l1 e1 h1 w
  have H2 := fun w hE => releaseKey_as n ⟨a, b, c, p⟩ l2 e2 h2 w hE hs
  have R2 := fun w => rreleaseKey_as n ⟨a, b, c, p⟩ l2 e2 h2 w hs
  have H3 := fun w hE => readKey_as key n3 _ i3 e3 h3 w hE hk
  have R3 := fun w => rreadKey_as key n3 _ i3 e3 h3 w
  obtain ⟨A1, hA1⟩ : ∃ A, S l1 = A := ⟨_, rfl⟩
  obtain ⟨A2, hA2⟩ : ∃ A, S l2 = A := ⟨_, rfl⟩
  obtain ⟨A3, hA3⟩ : ∃ A, S n3 = A := ⟨_, rfl⟩
  rw [hA1] at H1 R1
  rw [hA2] at H2 R2
  rw [hA3] at H3 R3
  simp only at H2 R2 H3 R3
  have H1 := Lib.hid H1
  have R1 := Lib.hid R1
  have H2 := Lib.hid H2
  have R2 := Lib.hid R2
  have H3 := Lib.hid H3
  have R3 := Lib.hid R3
  clear h1 h2 h3 hA1 hA2 hA3 hbig
  go_enter Tryz.func6, Tryz.ntmps6
  go_wp2_with fail
  refine (H1.out _).mono ?_
  rintro e w1 ⟨rfl, rfl⟩
  go_wp2_with fail
  refine (R1.out _).mono ?_
  rintro e w2 ⟨rfl, hb2⟩
  have hx2 := box_then hx0 hb2
  have hB2 := below_then hW hb2
  obtain ⟨⟨c0, c1, c2, c3'⟩, _⟩ := box_four hx2
  go_wp2_with fail
  refine (H2.out _ (HE.out.below hB2).env).mono ?_
  rintro e w3 ⟨rfl, hb3⟩
  have hx3 := box_then hx2 hb3
  have hB3 := below_then hB2 hb3
  clear c0 c1 c2 c3'
  obtain ⟨⟨c0, c1, c2, c3'⟩, _⟩ := box_four hx3
  go_wp2_with fail
  refine (R2.out _).mono ?_
  rintro e w4 ⟨rfl, hb4⟩
  have hB4 := below_then hB3 hb4
  clear c0 c1 c2 c3'
  go_wp2_with fail
  refine (H3.out _ (HE.out.below hB4).env).mono ?_
  rintro e w5 ⟨rfl, hb5⟩
  have hal5 : Below w5.heap.size w5 (w5.alloc (.cells #[.int .i64 a3, .int .i64 b3, .int .i64 c3, .string p3] 23)) := (Below.refl _ _).alloc (Nat.le_refl _) _
  have hB5 := below_then (below_then hB4 hb5) hal5
  have hy5 := Below.refl (w5.heap.size + 1) (w5.alloc (.cells #[.int .i64 a3, .int .i64 b3, .int .i64 c3, .string p3] 23))
  go_wp2_with fail
  refine (R3.out _).mono ?_
  rintro e w6 ⟨rfl, hb6⟩
  have hy6 := box_then hy5 hb6
  have hB6 := below_then (below_then hB5 hb6) ((Below.refl _ _).alloc (Nat.le_refl _) (.cells #[.int .i64 a3, .int .i64 b3, .int .i64 c3, .string p3] 23))
  obtain ⟨⟨c0, c1, c2, c3'⟩, _⟩ := box_four hy6
  have hz := cell_lt c0
  have hv := fun W => rver_eq a3 b3 c3 p3 a3 b3 c3 p3 true (by simp) W
  cases i3
  all_goals
    go_wp2_with fail
    refine (awake_any _ (HE.out.below hB6)).mono ?_
    rintro e w7 ⟨rfl, hb7⟩
    clear c0 c1 c2 c3' hv
    go_wp2_with fail
    go_ret
    exact ⟨rfl, below_then hB6 hb7⟩
end Go.Proofs.YtlhpgkaffbgkgaaGreatDoor
