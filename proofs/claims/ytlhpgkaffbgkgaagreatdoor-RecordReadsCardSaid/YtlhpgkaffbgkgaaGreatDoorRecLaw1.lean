/- The laws of layer 22: RecordReleases, RecordReads: walks. -/
import Derived.Test.YtlhpgkaffbgkgaaGreatDoorRecAwake
import Derived.Test.YtlhpgkaffbgkgaaGreatDoorRecRef3
namespace Go.Proofs.YtlhpgkaffbgkgaaGreatDoor
open Go.RowKit
theorem rrelease_as (r : Rel) (t : List UInt8) (e0 : Int) (h : relShow r = (t, e0)) (w : World) (hs : r.v.p.size ≤ 9223372036854775807) :
    Calls Tryz.prog 9 #[.agg #[.string r.name, .int .i64 r.v.a, .int .i64 r.v.b, .int .i64 r.v.c, .string r.v.p, .string r.source, .string r.face, .bool r.yanked, .string r.note]] w fun e w' => e = .returned (.tuple #[.string (S t), .int .i64 e0]) ∧ Below w.heap.size w w' := by
  have := rrelease_any r w hs
  unfold RelPost at this
  rw [h] at this
  exact this
theorem rreadRelease_as (s : ByteArray) (r : Rel) (e0 : Int) (h : RelIs s.data.toList r e0) (w : World) (hs : s.size ≤ 100000) :
    Calls Tryz.prog 12 #[.string s] w fun e w' => e = .returned (.tuple #[.agg #[.string r.name, .int .i64 r.v.a, .int .i64 r.v.b, .int .i64 r.v.c, .string r.v.p, .string r.source, .string r.face, .bool r.yanked, .string r.note], .int .i64 e0]) ∧ Below w.heap.size w w' := by
  refine (rreadRelease_any s w hs).mono ?_
  rintro e w' ⟨r', e', he, hi, hb⟩
  obtain ⟨rfl, rfl⟩ := RelIs.uniq hi h
  exact ⟨he, hb⟩
/-- some bytes are a release, or none -/
theorem rel_is (l : List UInt8) : ∃ r e, RelIs l r e := by
  by_cases h : ∃ q : Rel, q.ok = true ∧ q.text = l
  · obtain ⟨q, h1, h2⟩ := h
    exact ⟨q, 0, relIs_fit h1 h2⟩
  · exact ⟨Rel.zero, 220, relIs_no fun q h1 h2 => h ⟨q, h1, h2⟩⟩
set_option maxRecDepth 100000 in
set_option maxHeartbeats 1000000 in
theorem recordReleases_walk (n : ByteArray) (a b c : Int) (p s f : ByteArray) (y : Bool) (t : ByteArray) (w : World) (hE : REnv w) (hs : p.size ≤ 9223372036854775807) :
    Calls Tryz.prog 3 #[.agg #[.string n, .int .i64 a, .int .i64 b, .int .i64 c, .string p, .string s, .string f, .bool y, .string t]] w fun e w' => e = .returned (.bool true) ∧ Below w.heap.size w w' := by
  have HE := Lib.hid hE
  obtain ⟨l, e0, hl⟩ : ∃ l e0, relShow ⟨n, ⟨a, b, c, p⟩, s, f, y, t⟩ = (l, e0) := ⟨_, _, rfl⟩
  have H1 := fun W hE => release_as ⟨n, ⟨a, b, c, p⟩, s, f, y, t⟩ l e0 hl W hE hs
  have H2 := fun W => rrelease_as ⟨n, ⟨a, b, c, p⟩, s, f, y, t⟩ l e0 hl W hs
  obtain ⟨A, hA⟩ : ∃ A, S l = A := ⟨_, rfl⟩
  rw [hA] at H1 H2
  have H1 := Lib.hid H1
  have H2 := Lib.hid H2
  have hW := (Below.refl w.heap.size w).alloc (Nat.le_refl _) (.cells #[.string n, .int .i64 a, .int .i64 b, .int .i64 c, .string p, .string s, .string f, .bool y, .string t] 25)
  have hx0 := Below.refl (w.heap.size + 1) (w.alloc (.cells #[.string n, .int .i64 a, .int .i64 b, .int .i64 c, .string p, .string s, .string f, .bool y, .string t] 25))
  clear hE hl hA
  go_enter Tryz.func3, Tryz.ntmps3
  go_wp2_with fail
  refine (H1.out _ (HE.out.below hW)).mono ?_
  rintro e w1 ⟨rfl, hb1⟩
  have hx1 := box_then hx0 hb1
  have hB1 := below_then hW hb1
  obtain ⟨⟨c0, c1, c2, c3, c4, c5, c6, c7, c8⟩, _⟩ := box_nine hx1
  go_wp2_with fail
  refine (H2.out _).mono ?_
  rintro e w2 ⟨rfl, hb2⟩
  have hB2 := below_then hB1 hb2
  clear c0 c1 c2 c3 c4 c5 c6 c7 c8
  go_wp2_with fail
  refine (awake_any _ (HE.out.below hB2)).mono ?_
  rintro e w3 ⟨rfl, hb3⟩
  go_wp2_with fail
  go_ret
  exact ⟨rfl, below_then hB2 hb3⟩
set_option maxRecDepth 100000 in
set_option maxHeartbeats 1000000 in
theorem recordReads_walk (x : ByteArray) (w : World) (hE : REnv w) :
    Calls Tryz.prog 4 #[.string x] w fun e w' => e = .returned (.bool true) ∧ Below w.heap.size w w' := by
  have HE := Lib.hid hE
  by_cases hbig : 20000 < x.size
  · have q : decide ((20000 : Int) < (x.size : Int)) = true := by simp; omega
    clear hbig
    go_enter Tryz.func4, Tryz.ntmps4
    go_wp2_with fail
    refine (awake_any _ HE.out).mono ?_
    rintro e w1 ⟨rfl, hb1⟩
    go_wp2_with fail
    go_ret
    exact ⟨rfl, hb1⟩
  have q : decide ((20000 : Int) < (x.size : Int)) = false := by simp; omega
  obtain ⟨r, e0, hr⟩ := rel_is x.data.toList
  have H1 := fun W hE => readRelease_as x r e0 hr W hE (by omega)
  have H2 := fun W => rreadRelease_as x r e0 hr W (by omega)
  obtain ⟨n, ⟨a, b, c, p⟩, s, f, y, t⟩ := r
  simp only at H1 H2
  have H1 := Lib.hid H1
  have H2 := Lib.hid H2
  clear hE hbig hr
  go_enter Tryz.func4, Tryz.ntmps4
  go_wp2_with fail
  refine (H1.out _ HE.out).mono ?_
  rintro e w1 ⟨rfl, hb1⟩
  have hal1 : Below w1.heap.size w1 (w1.alloc (.cells #[.string n, .int .i64 a, .int .i64 b, .int .i64 c, .string p, .string s, .string f, .bool y, .string t] 25)) := (Below.refl _ _).alloc (Nat.le_refl _) _
  have hB1 := below_then hb1 hal1
  have hx1 := Below.refl (w1.heap.size + 1) (w1.alloc (.cells #[.string n, .int .i64 a, .int .i64 b, .int .i64 c, .string p, .string s, .string f, .bool y, .string t] 25))
  go_wp2_with fail
  refine (H2.out _).mono ?_
  rintro e w2 ⟨rfl, hb2⟩
  have hB2 := below_then hB1 hb2
  obtain ⟨⟨c0, c1, c2, c3, c4, c5, c6, c7, c8⟩, _⟩ := box_nine (box_then hx1 hb2)
  have hz := cell_lt c0
  have hq := fun W => rel_eq n a b c p s f y t W
  go_wp2_with fail
  refine (awake_any _ (HE.out.below (below_then hB2 ((Below.refl _ _).alloc (Nat.le_refl _) _)))).mono ?_
  rintro e w3 ⟨rfl, hb3⟩
  clear c0 c1 c2 c3 c4 c5 c6 c7 c8 hq
  go_wp2_with fail
  go_ret
  exact ⟨rfl, below_then (below_then hB2 ((Below.refl _ _).alloc (Nat.le_refl _) _)) hb3⟩
end Go.Proofs.YtlhpgkaffbgkgaaGreatDoor
