/- The laws of layer 22: RecordApart: a walk. -/
import Derived.Test.YtlhpgkaffbgkgaaGreatDoorRecAwake
namespace Go
open Go.RowKit
theorem box_eight {w w1 : World} {x0 x1 x2 x3 x4 x5 x6 x7 : Value} {T : TypeId} (h : Below (w.heap.size + 1) (w.alloc (.cells #[x0, x1, x2, x3, x4, x5, x6, x7] T)) w1) :
    (w1.cell? ⟨w.heap.size, 0, none⟩ = some x0 ∧ w1.cell? ⟨w.heap.size, 1, none⟩ = some x1 ∧ w1.cell? ⟨w.heap.size, 2, none⟩ = some x2 ∧ w1.cell? ⟨w.heap.size, 3, none⟩ = some x3) ∧
    (w1.cell? ⟨w.heap.size, 4, none⟩ = some x4 ∧ w1.cell? ⟨w.heap.size, 5, none⟩ = some x5 ∧ w1.cell? ⟨w.heap.size, 6, none⟩ = some x6 ∧ w1.cell? ⟨w.heap.size, 7, none⟩ = some x7) :=
  ⟨⟨box_cells h 0, box_cells h 1, box_cells h 2, box_cells h 3⟩, box_cells h 4, box_cells h 5, box_cells h 6, box_cells h 7⟩
theorem relL_eq {n o s t : List UInt8} {v u : V4} (hn : nameOk n = true) (ho : nameOk o = true) (hv : v.IsShow s) (hu : u.IsShow t) : relL n s = relL o t ↔ n = o ∧ v = u := by
  constructor
  · intro h
    obtain ⟨rfl, rfl⟩ := relL_inj hn ho h
    exact ⟨rfl, V4.isShow_inj hv hu⟩
  · rintro ⟨rfl, rfl⟩
    rw [← hv.2, ← hu.2]
theorem relKey_yes {n : List UInt8} {v : V4} (h : (v.ok && nameOk n) = true) : relKey n v = (relL n v.show, 0) := by unfold relKey; rw [h]; rfl
theorem relKey_no {n : List UInt8} {v : V4} (h : (v.ok && nameOk n) = false) : relKey n v = ([], 220) := by unfold relKey; rw [h]; rfl
theorem ownKey_yes {n : List UInt8} (h : nameOk n = true) : ownKey n = (ownL n, 0) := by unfold ownKey; rw [h]; rfl
theorem ownKey_no {n : List UInt8} (h : nameOk n = false) : ownKey n = ([], 220) := by unfold ownKey; rw [h]; rfl
end Go
namespace Go.Proofs.YtlhpgkaffbgkgaaGreatDoor
open Go.RowKit
theorem ownerKey_at (n : ByteArray) (t : List UInt8) (e0 : Int) (h : ownKey n.data.toList = (t, e0)) (w : World) : Calls Tryz.prog 13 #[.string n] w fun e w' => e = .returned (.tuple #[.string (S t), .int .i64 e0]) ∧ w' = w := by
  have := ownerKey_any n w
  rw [h] at this
  exact this
set_option maxRecDepth 100000 in
set_option maxHeartbeats 4000000 in
theorem recordApart_walk (n o : ByteArray) (a b c : Int) (p : ByteArray) (a' b' c' : Int) (p' : ByteArray) (w : World) (hE : REnv w) (hs : p.size ≤ 9223372036854775807) (hs' : p'.size ≤ 9223372036854775807) :
    Calls Tryz.prog 7 #[.string n, .string o, .agg #[.int .i64 a, .int .i64 b, .int .i64 c, .string p, .int .i64 a', .int .i64 b', .int .i64 c', .string p']] w fun e w' => e = .returned (.bool true) ∧ Below w.heap.size w w' := by
  have HE := Lib.hid hE
  have hW := (Below.refl w.heap.size w).alloc (Nat.le_refl _) (.cells #[.int .i64 a, .int .i64 b, .int .i64 c, .string p, .int .i64 a', .int .i64 b', .int .i64 c', .string p'] 48)
  have hx0 := Below.refl (w.heap.size + 1) (w.alloc (.cells #[.int .i64 a, .int .i64 b, .int .i64 c, .string p, .int .i64 a', .int .i64 b', .int .i64 c', .string p'] 48))
  clear hE
  by_cases hbig : 300 < p.size
  · have q : decide ((300 : Int) < (p.size : Int)) = true := by simp; omega
    clear hbig
    go_enter Tryz.func7, Tryz.ntmps7
    go_wp2_with fail
    refine (awake_any _ (HE.out.below hW)).mono ?_
    rintro e w1 ⟨rfl, hb1⟩
    go_wp2_with fail
    go_ret
    exact ⟨rfl, below_then hW hb1⟩
  have q : decide ((300 : Int) < (p.size : Int)) = false := by simp; omega
  by_cases hbig' : 300 < p'.size
  · have q : decide ((300 : Int) < (p'.size : Int)) = true := by simp; omega
    clear hbig'
    go_enter Tryz.func7, Tryz.ntmps7
    go_wp2_with fail
    refine (awake_any _ (HE.out.below hW)).mono ?_
    rintro e w1 ⟨rfl, hb1⟩
    go_wp2_with fail
    go_ret
    exact ⟨rfl, below_then hW hb1⟩
  have q' : decide ((300 : Int) < (p'.size : Int)) = false := by simp; omega
  clear hbig hbig'
  obtain ⟨l3, e3, h3⟩ : ∃ l e, relKey o.data.toList ⟨a', b', c', p'⟩ = (l, e) := ⟨_, _, rfl⟩
  have H3 := fun w hE => releaseKey_as o ⟨a', b', c', p'⟩ l3 e3 h3 w hE hs'
  simp only at H3
  obtain ⟨C, hC⟩ : ∃ C, S l3 = C := ⟨_, rfl⟩
  rw [hC] at H3
  have H3 := Lib.hid H3
  have HC : Hid (C.toList = l3) := by show _ = _; rw [← hC, S_toList]
  cases hn : nameOk n.data.toList
  · -- no owner's key, no release's
    have H1 := Lib.hid (fun w => ownerKey_at n _ _ (ownKey_no hn) w)
    have H2 := Lib.hid (fun w hE => releaseKey_as n ⟨a, b, c, p⟩ _ _ (relKey_no (by rw [hn, Bool.and_false])) w hE hs)
    clear h3 hC hn
    go_enter Tryz.func7, Tryz.ntmps7
    go_wp2_with fail
    refine (H1.out _).mono ?_
    rintro e w1 ⟨rfl, rfl⟩
    go_wp2_with fail
    refine (H2.out _ (HE.out.below hW).env).mono ?_
    rintro e w2 ⟨rfl, hb2⟩
    have hB2 := below_then hW hb2
    obtain ⟨_, ⟨c4, c5, c6, c7⟩⟩ := box_eight (box_then hx0 hb2)
    go_wp2_with fail
    refine (H3.out _ (HE.out.below hB2).env).mono ?_
    rintro e w3 ⟨rfl, hb3⟩
    have hB3 := below_then hB2 hb3
    clear c4 c5 c6 c7
    go_wp2_with fail
    refine (awake_any _ (HE.out.below hB3)).mono ?_
    rintro e w7 ⟨rfl, hb7⟩
    go_wp2_with fail
    go_ret
    exact ⟨rfl, below_then hB3 hb7⟩
  have hnl := (name_len hn).2.1
  obtain ⟨A, hA⟩ : ∃ A, S (ownL n.data.toList) = A := ⟨_, rfl⟩
  have HA : Hid (A.toList = ownL n.data.toList) := by show _ = _; rw [← hA, S_toList]
  have H1 := fun w => ownerKey_at n _ _ (ownKey_yes hn) w
  rw [hA] at H1
  have H1 := Lib.hid H1
  have R1 := fun w hE => readKey_as A n.data.toList V4.zero false 0 (keyIs_own (by rw [← hA]; rfl) hn) w hE (by rw [← hA, S_size]; have := ownL_len hn; omega)
  rw [S_of] at R1
  rw [show V4.zero.a = 0 from rfl, show V4.zero.b = 0 from rfl, show V4.zero.c = 0 from rfl, show V4.zero.p = ⟨#[]⟩ from rfl] at R1
  have R1 := Lib.hid R1
  have hv0 := Lib.hid (fun W => rver_eq 0 0 0 ⟨#[]⟩ 0 0 0 ⟨#[]⟩ true (by simp) W)
  cases hok : (V4.ok ⟨a, b, c, p⟩)
  · have H2 := Lib.hid (fun w hE => releaseKey_as n ⟨a, b, c, p⟩ _ _ (relKey_no (by rw [hok, Bool.false_and])) w hE hs)
    clear h3 hC hn hnl hA hok
    go_enter Tryz.func7, Tryz.ntmps7
    go_wp2_with fail
    refine (H1.out _).mono ?_
    rintro e w1 ⟨rfl, rfl⟩
    go_wp2_with fail
    refine (H2.out _ (HE.out.below hW).env).mono ?_
    rintro e w2 ⟨rfl, hb2⟩
    have hB2 := below_then hW hb2
    obtain ⟨_, ⟨c4, c5, c6, c7⟩⟩ := box_eight (box_then hx0 hb2)
    go_wp2_with fail
    refine (H3.out _ (HE.out.below hB2).env).mono ?_
    rintro e w3 ⟨rfl, hb3⟩
    have hB3 := below_then hB2 hb3
    clear c4 c5 c6 c7
    go_wp2_with fail
    refine (R1.out _ (HE.out.below hB3).env).mono ?_
    rintro e w4 ⟨rfl, hb4⟩
    have hB4 := below_then (below_then hB3 hb4) ((Below.refl _ _).alloc (Nat.le_refl _) (.cells #[.int .i64 0, .int .i64 0, .int .i64 0, .string ⟨#[]⟩] 23))
    have hvv := hv0.out
    go_wp2_with fail
    clear hvv
    refine (awake_any _ (HE.out.below hB4)).mono ?_
    rintro e w7 ⟨rfl, hb7⟩
    go_wp2_with fail
    go_ret
    exact ⟨rfl, below_then hB4 hb7⟩
  -- both keys
  have hsh : V4.IsShow ⟨a, b, c, p⟩ (V4.show ⟨a, b, c, p⟩) := ⟨hok, rfl⟩
  obtain ⟨t, ht⟩ : ∃ t, V4.show ⟨a, b, c, p⟩ = t := ⟨_, rfl⟩
  rw [ht] at hsh
  obtain ⟨B, hB⟩ : ∃ B, S (relL n.data.toList t) = B := ⟨_, rfl⟩
  have hBl : B.toList = relL n.data.toList t := by rw [← hB, S_toList]
  have H2 := fun w hE => releaseKey_as n ⟨a, b, c, p⟩ _ _ (relKey_yes (by rw [hok, hn]; rfl)) w hE hs
  rw [ht, hB] at H2
  simp only at H2
  have H2 := Lib.hid H2
  have R2 := fun w hE => readKey_as B n.data.toList ⟨a, b, c, p⟩ true 0 (keyIs_rel (by rw [← hB]; rfl) hn hsh) w hE (by rw [← hB, S_size]; have := relL_len hn hsh; omega)
  rw [S_of] at R2
  simp only at R2
  have R2 := Lib.hid R2
  have hAB : (A.toList == B.toList) = false := by rw [HA.out, hBl, beq_eq_false_iff_ne]; exact own_rel
  have hv1 := Lib.hid (fun W => rver_eq a b c p a b c p true (by simp) W)
  have hnn : (n.toList == n.toList) = true := beq_self_eq_true _
  have hlast : ∃ (x y z : Bool), (n.toList == o.toList) = x ∧ decide (a = a' ∧ b = b' ∧ c = c' ∧ p = p') = y ∧ (B.toList == C.toList) = z ∧ (e3 = 220 ∨ e3 = 0 ∧ z = (x && y)) := by
    refine ⟨_, _, _, rfl, rfl, rfl, ?_⟩
    cases hok' : (V4.ok ⟨a', b', c', p'⟩ && nameOk o.data.toList)
    · rw [relKey_no hok'] at h3
      injection h3 with _ h3
      exact .inl h3.symm
    · rw [relKey_yes hok'] at h3
      injection h3 with h3 h4
      refine .inr ⟨h4.symm, ?_⟩
      rw [Bool.and_eq_true] at hok'
      rw [hBl, HC.out, ← h3]
      have := relL_eq (u := ⟨a', b', c', p'⟩) hn hok'.2 hsh ⟨hok'.1, rfl⟩
      rw [Bool.eq_iff_iff, beq_iff_eq, this, Bool.and_eq_true, beq_iff_eq, decide_eq_true_iff, Lib.toList_data, Lib.toList_data]
      simp
  obtain ⟨x, y, z, hx, hy, hz, hlast⟩ := hlast
  have hv2 := Lib.hid (fun W => rver_eq a b c p a' b' c' p' y hy.symm W)
  clear h3 hC hn hnl hA hok ht hB hBl hsh hy
  rcases hlast with rfl | ⟨rfl, hzz⟩
  · go_enter Tryz.func7, Tryz.ntmps7
    go_wp2_with fail
    refine (H1.out _).mono ?_
    rintro e w1 ⟨rfl, rfl⟩
    go_wp2_with fail
    refine (H2.out _ (HE.out.below hW).env).mono ?_
    rintro e w2 ⟨rfl, hb2⟩
    have hB2 := below_then hW hb2
    have hx2 := box_then hx0 hb2
    obtain ⟨_, ⟨c4, c5, c6, c7⟩⟩ := box_eight hx2
    go_wp2_with fail
    refine (H3.out _ (HE.out.below hB2).env).mono ?_
    rintro e w3 ⟨rfl, hb3⟩
    have hB3 := below_then hB2 hb3
    have hx3 := box_then hx2 hb3
    clear c4 c5 c6 c7
    go_wp2_with fail
    refine (R1.out _ (HE.out.below hB3).env).mono ?_
    rintro e w4 ⟨rfl, hb4⟩
    have hal4 : Below w4.heap.size w4 (w4.alloc (.cells #[.int .i64 0, .int .i64 0, .int .i64 0, .string ⟨#[]⟩] 23)) := (Below.refl _ _).alloc (Nat.le_refl _) _
    have hB4 := below_then (below_then hB3 hb4) hal4
    have hx4 := box_then (box_then hx3 hb4) hal4
    have hvv := hv0.out
    go_wp2_with fail
    clear hvv
    refine (R2.out _ (HE.out.below hB4).env).mono ?_
    rintro e w5 ⟨rfl, hb5⟩
    have hB5 := below_then (below_then hB4 hb5) ((Below.refl _ _).alloc (Nat.le_refl _) (.cells #[.int .i64 a, .int .i64 b, .int .i64 c, .string p] 23))
    obtain ⟨⟨c0, c1, c2, c3⟩, _⟩ := box_eight (box_then hx4 hb5)
    have hz0 := cell_lt c0
    have hvv := hv1.out
    go_wp2_with fail
    clear hvv c0 c1 c2 c3
    refine (awake_any _ (HE.out.below hB5)).mono ?_
    rintro e w7 ⟨rfl, hb7⟩
    go_wp2_with fail
    go_ret
    exact ⟨rfl, below_then hB5 hb7⟩
  · have HZ := Lib.hid hzz
    clear hzz
    go_enter Tryz.func7, Tryz.ntmps7
    go_wp2_with fail
    refine (H1.out _).mono ?_
    rintro e w1 ⟨rfl, rfl⟩
    go_wp2_with fail
    refine (H2.out _ (HE.out.below hW).env).mono ?_
    rintro e w2 ⟨rfl, hb2⟩
    have hB2 := below_then hW hb2
    have hx2 := box_then hx0 hb2
    obtain ⟨_, ⟨c4, c5, c6, c7⟩⟩ := box_eight hx2
    go_wp2_with fail
    refine (H3.out _ (HE.out.below hB2).env).mono ?_
    rintro e w3 ⟨rfl, hb3⟩
    have hB3 := below_then hB2 hb3
    have hx3 := box_then hx2 hb3
    clear c4 c5 c6 c7
    go_wp2_with fail
    refine (R1.out _ (HE.out.below hB3).env).mono ?_
    rintro e w4 ⟨rfl, hb4⟩
    have hal4 : Below w4.heap.size w4 (w4.alloc (.cells #[.int .i64 0, .int .i64 0, .int .i64 0, .string ⟨#[]⟩] 23)) := (Below.refl _ _).alloc (Nat.le_refl _) _
    have hB4 := below_then (below_then hB3 hb4) hal4
    have hx4 := box_then (box_then hx3 hb4) hal4
    have hvv := hv0.out
    go_wp2_with fail
    clear hvv
    refine (R2.out _ (HE.out.below hB4).env).mono ?_
    rintro e w5 ⟨rfl, hb5⟩
    have hal5 : Below w5.heap.size w5 (w5.alloc (.cells #[.int .i64 a, .int .i64 b, .int .i64 c, .string p] 23)) := (Below.refl _ _).alloc (Nat.le_refl _) _
    have hB5 := below_then (below_then hB4 hb5) hal5
    obtain ⟨⟨c0, c1, c2, c3⟩, ⟨c4, c5, c6, c7⟩⟩ := box_eight (box_then hx4 hb5)
    have hz0 := cell_lt c0
    have hvv := hv1.out
    have hvw := hv2.out
    cases x <;> cases y <;> cases z
    all_goals first | (exfalso; exact absurd HZ.out (by decide)) | skip
    all_goals
      go_wp2_with fail
      clear hvv hvw c0 c1 c2 c3 c4 c5 c6 c7
      refine (awake_any _ (HE.out.below hB5)).mono ?_
      rintro e w7 ⟨rfl, hb7⟩
      go_wp2_with fail
      go_ret
      exact ⟨rfl, below_then hB5 hb7⟩
end Go.Proofs.YtlhpgkaffbgkgaaGreatDoor
