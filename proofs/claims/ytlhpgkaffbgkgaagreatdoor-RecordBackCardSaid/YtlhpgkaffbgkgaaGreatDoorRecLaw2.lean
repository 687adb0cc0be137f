/- The laws of layer 22: RecordBack: a walk. -/
import Derived.Test.YtlhpgkaffbgkgaaGreatDoorRecLaw1
namespace Go.Proofs.YtlhpgkaffbgkgaaGreatDoor
open Go.RowKit
set_option maxRecDepth 100000 in
set_option maxHeartbeats 2000000 in
theorem recordBack_walk (n : ByteArray) (a b c : Int) (p s f : ByteArray) (y : Bool) (t x : ByteArray) (w : World) (hE : REnv w) (hs : p.size ≤ 9223372036854775807) :
    Calls Tryz.prog 5 #[.agg #[.string n, .int .i64 a, .int .i64 b, .int .i64 c, .string p, .string s, .string f, .bool y, .string t], .string x] w fun e w' => e = .returned (.bool true) ∧ Below w.heap.size w w' := by
  have HE := Lib.hid hE
  have hW := (Below.refl w.heap.size w).alloc (Nat.le_refl _) (.cells #[.string n, .int .i64 a, .int .i64 b, .int .i64 c, .string p, .string s, .string f, .bool y, .string t] 25)
  have hx0 := Below.refl (w.heap.size + 1) (w.alloc (.cells #[.string n, .int .i64 a, .int .i64 b, .int .i64 c, .string p, .string s, .string f, .bool y, .string t] 25))
  clear hE
  by_cases hbig : 20000 < x.size
  · have q : decide ((20000 : Int) < (x.size : Int)) = true := by simp; omega
    clear hbig
    go_enter Tryz.func5, Tryz.ntmps5
    go_wp2_with fail
    refine (awake_any _ (HE.out.below hW)).mono ?_
    rintro e w1 ⟨rfl, hb1⟩
    go_wp2_with fail
    go_ret
    exact ⟨rfl, below_then hW hb1⟩
  have q : decide ((20000 : Int) < (x.size : Int)) = false := by simp; omega
  -- what the bytes are
  obtain ⟨r, e0, hr⟩ := rel_is x.data.toList
  have HX := Lib.hid (fun W hE => readRelease_as x r e0 hr W hE (by omega))
  have hcase : (e0 = 220 ∧ r = Rel.zero) ∨ (e0 = 0 ∧ r.ok = true ∧ r.text = x.data.toList) := by
    rcases hr with ⟨h1, h2, h3⟩ | ⟨h1, h2, _⟩
    · exact .inr ⟨h1, h2, h3⟩
    · exact .inl ⟨h1, h2⟩
  clear hr hbig
  -- what the release is laid as
  obtain ⟨b0, hb0⟩ : ∃ b0, Rel.ok ⟨n, ⟨a, b, c, p⟩, s, f, y, t⟩ = b0 := ⟨_, rfl⟩
  cases b0
  · have H1 := Lib.hid (fun W hE => release_as ⟨n, ⟨a, b, c, p⟩, s, f, y, t⟩ [] 220 (relShow_no hb0) W hE hs)
    clear hb0
    rcases hcase with ⟨rfl, rfl⟩ | ⟨rfl, hok, htx⟩
    · go_enter Tryz.func5, Tryz.ntmps5
      go_wp2_with fail
      refine (H1.out _ (HE.out.below hW)).mono ?_
      rintro e w1 ⟨rfl, hb1⟩
      have hB1 := below_then hW hb1
      go_wp2_with fail
      refine (HX.out _ (HE.out.below hB1)).mono ?_
      rintro e w2 ⟨rfl, hb2⟩
      have hB2 := below_then (below_then hB1 hb2) ((Below.refl _ _).alloc (Nat.le_refl _) (.cells #[.string ⟨#[]⟩, .int .i64 0, .int .i64 0, .int .i64 0, .string ⟨#[]⟩, .string ⟨#[]⟩, .string ⟨#[]⟩, .bool false, .string ⟨#[]⟩] 25))
      have hq := fun W => rel_eq ⟨#[]⟩ 0 0 0 ⟨#[]⟩ ⟨#[]⟩ ⟨#[]⟩ false ⟨#[]⟩ W
      rw [show Rel.zero.name = ⟨#[]⟩ from rfl, show Rel.zero.v = V4.zero from rfl, show V4.zero.a = 0 from rfl, show V4.zero.b = 0 from rfl, show V4.zero.c = 0 from rfl, show V4.zero.p = ⟨#[]⟩ from rfl, show Rel.zero.source = ⟨#[]⟩ from rfl, show Rel.zero.face = ⟨#[]⟩ from rfl, show Rel.zero.yanked = false from rfl, show Rel.zero.note = ⟨#[]⟩ from rfl]
      go_wp2_with fail
      refine (awake_any _ (HE.out.below hB2)).mono ?_
      rintro e w3 ⟨rfl, hb3⟩
      go_wp2_with fail
      go_ret
      exact ⟨rfl, below_then hB2 hb3⟩
    · obtain ⟨n', ⟨a', b', c', p'⟩, s', f', y', t'⟩ := r
      have hp' : p'.size ≤ 9223372036854775807 := by
        have := (verOk_bounds (rel_parts hok).1).2.2.2.2.2.2.1
        simp only at this
        rw [Lib.size_eq]; omega
      have H2 := fun W hE => release_as ⟨n', ⟨a', b', c', p'⟩, s', f', y', t'⟩ x.data.toList 0 (by rw [relShow_yes hok, htx]) W hE hp'
      rw [S_of] at H2
      simp only at HX H2
      have H2 := Lib.hid H2
      clear hok htx
      go_enter Tryz.func5, Tryz.ntmps5
      go_wp2_with fail
      refine (H1.out _ (HE.out.below hW)).mono ?_
      rintro e w1 ⟨rfl, hb1⟩
      have hB1 := below_then hW hb1
      go_wp2_with fail
      refine (HX.out _ (HE.out.below hB1)).mono ?_
      rintro e w2 ⟨rfl, hb2⟩
      have hB2 := below_then (below_then hB1 hb2) ((Below.refl _ _).alloc (Nat.le_refl _) (.cells #[.string n', .int .i64 a', .int .i64 b', .int .i64 c', .string p', .string s', .string f', .bool y', .string t'] 25))
      go_wp2_with fail
      refine (H2.out _ (HE.out.below hB2)).mono ?_
      rintro e w3 ⟨rfl, hb3⟩
      have hB3 := below_then hB2 hb3
      go_wp2_with fail
      refine (awake_any _ (HE.out.below hB3)).mono ?_
      rintro e w4 ⟨rfl, hb4⟩
      go_wp2_with fail
      go_ret
      exact ⟨rfl, below_then hB3 hb4⟩
  have hlen := rel_len hb0
  have hps : p.size ≤ 9223372036854775807 := hs
  obtain ⟨A, hA⟩ : ∃ A, S (Rel.text ⟨n, ⟨a, b, c, p⟩, s, f, y, t⟩) = A := ⟨_, rfl⟩
  have hAl : A.data.toList = Rel.text ⟨n, ⟨a, b, c, p⟩, s, f, y, t⟩ := by rw [← hA]; rfl
  have hAs : A.size ≤ 30000 := by rw [← hA, S_size]; exact hlen
  have H1 := fun W hE => release_as ⟨n, ⟨a, b, c, p⟩, s, f, y, t⟩ _ 0 (relShow_yes hb0) W hE hs
  rw [hA] at H1
  have H1 := Lib.hid H1
  have HR1 := Lib.hid (fun W hE => readRelease_as A ⟨n, ⟨a, b, c, p⟩, s, f, y, t⟩ 0 (relIs_fit hb0 hAl.symm) W hE (by omega))
  have HR2 := Lib.hid (fun W hE => readRelease_as (A ++ ⟨#[0]⟩) Rel.zero 220 (relIs_no fun q hq => by
    rw [show (A ++ ⟨#[0]⟩).data.toList = Rel.text ⟨n, ⟨a, b, c, p⟩, s, f, y, t⟩ ++ 0 :: [] by rw [← hAl]; simp]
    exact rel_behind hb0 q hq) W hE (by rw [ByteArray.size_append, show (⟨#[0]⟩ : ByteArray).size = 1 from rfl]; omega))
  have r1 : ∀ W, (Op.stringOp .add A ⟨#[0]⟩).run Tryz.prog W = .ok (.string (A ++ ⟨#[0]⟩)) W := fun W => run_string_add_sum W _ _ (by rw [show (⟨#[0]⟩ : ByteArray).size = 1 from rfl]; omega)
  clear hb0 hlen hA hAl
  rcases hcase with ⟨rfl, rfl⟩ | ⟨rfl, hok, htx⟩
  · go_enter Tryz.func5, Tryz.ntmps5
    go_wp2_with fail
    refine (H1.out _ (HE.out.below hW)).mono ?_
    rintro e w1 ⟨rfl, hb1⟩
    have hx1 := box_then hx0 hb1
    have hB1 := below_then hW hb1
    go_wp2_with fail
    refine (HR1.out _ (HE.out.below hB1)).mono ?_
    rintro e w2 ⟨rfl, hb2⟩
    have hal2 : Below w2.heap.size w2 (w2.alloc (.cells #[.string n, .int .i64 a, .int .i64 b, .int .i64 c, .string p, .string s, .string f, .bool y, .string t] 25)) := (Below.refl _ _).alloc (Nat.le_refl _) _
    have hx2 := box_then (box_then hx1 hb2) hal2
    have hB2 := below_then (below_then hB1 hb2) hal2
    have hy2 := Below.refl (w2.heap.size + 1) (w2.alloc (.cells #[.string n, .int .i64 a, .int .i64 b, .int .i64 c, .string p, .string s, .string f, .bool y, .string t] 25))
    go_wp2_with fail
    refine (HR2.out _ (HE.out.below hB2)).mono ?_
    rintro e w3 ⟨rfl, hb3⟩
    have hx3 := box_then hx2 hb3
    have hy3 := box_then hy2 hb3
    have hB3 := below_then (below_then hB2 hb3) ((Below.refl _ _).alloc (Nat.le_refl _) (.cells #[.string ⟨#[]⟩, .int .i64 0, .int .i64 0, .int .i64 0, .string ⟨#[]⟩, .string ⟨#[]⟩, .string ⟨#[]⟩, .bool false, .string ⟨#[]⟩] 25))
    rw [show Rel.zero.name = ⟨#[]⟩ from rfl, show Rel.zero.v = V4.zero from rfl, show V4.zero.a = 0 from rfl, show V4.zero.b = 0 from rfl, show V4.zero.c = 0 from rfl, show V4.zero.p = ⟨#[]⟩ from rfl, show Rel.zero.source = ⟨#[]⟩ from rfl, show Rel.zero.face = ⟨#[]⟩ from rfl, show Rel.zero.yanked = false from rfl, show Rel.zero.note = ⟨#[]⟩ from rfl]
    obtain ⟨⟨c0, c1, c2, c3, c4, c5, c6, c7, c8⟩, _⟩ := box_nine hx3
    obtain ⟨⟨d0, d1, d2, d3, d4, d5, d6, d7, d8⟩, _⟩ := box_nine hy3
    have hz0 := cell_lt c0
    have hz1 := cell_lt d0
    have hq := fun W => rel_eq n a b c p s f y t W
    go_wp2_with fail
    clear c0 c1 c2 c3 c4 c5 c6 c7 c8 d0 d1 d2 d3 d4 d5 d6 d7 d8 hq
    refine (HX.out _ (HE.out.below hB3)).mono ?_
    rintro e w5 ⟨rfl, hb5⟩
    have hB5 := below_then (below_then hB3 hb5) ((Below.refl _ _).alloc (Nat.le_refl _) (.cells #[.string ⟨#[]⟩, .int .i64 0, .int .i64 0, .int .i64 0, .string ⟨#[]⟩, .string ⟨#[]⟩, .string ⟨#[]⟩, .bool false, .string ⟨#[]⟩] 25))
    have hq := fun W => rel_eq ⟨#[]⟩ 0 0 0 ⟨#[]⟩ ⟨#[]⟩ ⟨#[]⟩ false ⟨#[]⟩ W
    rw [show Rel.zero.name = ⟨#[]⟩ from rfl, show Rel.zero.v = V4.zero from rfl, show V4.zero.a = 0 from rfl, show V4.zero.b = 0 from rfl, show V4.zero.c = 0 from rfl, show V4.zero.p = ⟨#[]⟩ from rfl, show Rel.zero.source = ⟨#[]⟩ from rfl, show Rel.zero.face = ⟨#[]⟩ from rfl, show Rel.zero.yanked = false from rfl, show Rel.zero.note = ⟨#[]⟩ from rfl]
    go_wp2_with fail
    refine (awake_any _ (HE.out.below hB5)).mono ?_
    rintro e w6 ⟨rfl, hb6⟩
    go_wp2_with fail
    go_ret
    exact ⟨rfl, below_then hB5 hb6⟩
  · obtain ⟨n', ⟨a', b', c', p'⟩, s', f', y', t'⟩ := r
    have hp' : p'.size ≤ 9223372036854775807 := by
      have := (verOk_bounds (rel_parts hok).1).2.2.2.2.2.2.1
      simp only at this
      rw [Lib.size_eq]; omega
    have H2 := fun W hE => release_as ⟨n', ⟨a', b', c', p'⟩, s', f', y', t'⟩ x.data.toList 0 (by rw [relShow_yes hok, htx]) W hE hp'
    rw [S_of] at H2
    simp only at HX H2
    have H2 := Lib.hid H2
    clear hok htx
    go_enter Tryz.func5, Tryz.ntmps5
    go_wp2_with fail
    refine (H1.out _ (HE.out.below hW)).mono ?_
    rintro e w1 ⟨rfl, hb1⟩
    have hx1 := box_then hx0 hb1
    have hB1 := below_then hW hb1
    go_wp2_with fail
    refine (HR1.out _ (HE.out.below hB1)).mono ?_
    rintro e w2 ⟨rfl, hb2⟩
    have hal2 : Below w2.heap.size w2 (w2.alloc (.cells #[.string n, .int .i64 a, .int .i64 b, .int .i64 c, .string p, .string s, .string f, .bool y, .string t] 25)) := (Below.refl _ _).alloc (Nat.le_refl _) _
    have hx2 := box_then (box_then hx1 hb2) hal2
    have hB2 := below_then (below_then hB1 hb2) hal2
    have hy2 := Below.refl (w2.heap.size + 1) (w2.alloc (.cells #[.string n, .int .i64 a, .int .i64 b, .int .i64 c, .string p, .string s, .string f, .bool y, .string t] 25))
    go_wp2_with fail
    refine (HR2.out _ (HE.out.below hB2)).mono ?_
    rintro e w3 ⟨rfl, hb3⟩
    have hx3 := box_then hx2 hb3
    have hy3 := box_then hy2 hb3
    have hB3 := below_then (below_then hB2 hb3) ((Below.refl _ _).alloc (Nat.le_refl _) (.cells #[.string ⟨#[]⟩, .int .i64 0, .int .i64 0, .int .i64 0, .string ⟨#[]⟩, .string ⟨#[]⟩, .string ⟨#[]⟩, .bool false, .string ⟨#[]⟩] 25))
    rw [show Rel.zero.name = ⟨#[]⟩ from rfl, show Rel.zero.v = V4.zero from rfl, show V4.zero.a = 0 from rfl, show V4.zero.b = 0 from rfl, show V4.zero.c = 0 from rfl, show V4.zero.p = ⟨#[]⟩ from rfl, show Rel.zero.source = ⟨#[]⟩ from rfl, show Rel.zero.face = ⟨#[]⟩ from rfl, show Rel.zero.yanked = false from rfl, show Rel.zero.note = ⟨#[]⟩ from rfl]
    obtain ⟨⟨c0, c1, c2, c3, c4, c5, c6, c7, c8⟩, _⟩ := box_nine hx3
    obtain ⟨⟨d0, d1, d2, d3, d4, d5, d6, d7, d8⟩, _⟩ := box_nine hy3
    have hz0 := cell_lt c0
    have hz1 := cell_lt d0
    have hq := fun W => rel_eq n a b c p s f y t W
    go_wp2_with fail
    clear c0 c1 c2 c3 c4 c5 c6 c7 c8 d0 d1 d2 d3 d4 d5 d6 d7 d8 hq
    refine (HX.out _ (HE.out.below hB3)).mono ?_
    rintro e w5 ⟨rfl, hb5⟩
    have hB5 := below_then (below_then hB3 hb5) ((Below.refl _ _).alloc (Nat.le_refl _) (.cells #[.string n', .int .i64 a', .int .i64 b', .int .i64 c', .string p', .string s', .string f', .bool y', .string t'] 25))
    go_wp2_with fail
    refine (H2.out _ (HE.out.below hB5)).mono ?_
    rintro e w6 ⟨rfl, hb6⟩
    have hB6 := below_then hB5 hb6
    go_wp2_with fail
    refine (awake_any _ (HE.out.below hB6)).mono ?_
    rintro e w7 ⟨rfl, hb7⟩
    go_wp2_with fail
    go_ret
    exact ⟨rfl, below_then hB6 hb7⟩
end Go.Proofs.YtlhpgkaffbgkgaaGreatDoor
