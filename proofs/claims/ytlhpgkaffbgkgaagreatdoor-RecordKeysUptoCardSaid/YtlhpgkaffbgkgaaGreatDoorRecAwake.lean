/- The probes of the laws of layer 22: a walk. -/
import Derived.Test.YtlhpgkaffbgkgaaGreatDoorRec5
namespace Go
open Go.Oct
def awV : V4 := ⟨1, 0, 0, ⟨#[]⟩⟩
theorem awv : awV.IsShow [49, 46, 48, 46, 48] := by
  refine ⟨by decide, ?_⟩
  show showL 1 0 0 [] = _
  unfold showL showCore
  rw [dig10_lt 1 (by decide), dig10_lt 0 (by decide)]
  decide
def awR : Rel := ⟨⟨#[112]⟩, awV, ⟨#[120]⟩, ⟨#[]⟩, false, ⟨#[]⟩⟩
def awT : List UInt8 := [6, 1, 112, 5, 49, 46, 48, 46, 48, 1, 120, 0, 0, 0]
def awK : List UInt8 := [114, 47, 112, 47, 49, 46, 48, 46, 48]
theorem awR_ok : awR.ok = true := by
  unfold Rel.ok
  rw [show awR.v.ok = true from awv.1]
  decide
theorem awR_text : awR.text = awT := by
  unfold Rel.text Rel.parts
  rw [show awR.v.show = [49, 46, 48, 46, 48] from awv.2]
  decide
theorem awK_is : relKey [112] awV = (awK, 0) := by
  unfold relKey
  rw [awv.1, awv.2]
  decide
theorem toList_same {p q : ByteArray} (h : p.toList = q.toList) : p = q := by
  rw [Lib.toList_data, Lib.toList_data] at h
  exact ByteArray.ext (Array.toList_inj.1 h)
end Go
namespace Go.Proofs.YtlhpgkaffbgkgaaGreatDoor
open Go.RowKit
/-- two versions, one? -/
theorem rver_eq (a b c : Int) (p : ByteArray) (a' b' c' : Int) (p' : ByteArray) (r : Bool) (hr : r = decide (a = a' ∧ b = b' ∧ c = c' ∧ p = p')) (W : World) :
    (Op.equalIn 10000 23 (.agg #[.int .i64 a, .int .i64 b, .int .i64 c, .string p]) (.agg #[.int .i64 a', .int .i64 b', .int .i64 c', .string p'])).run Tryz.prog W = .ok r W := by
  subst hr
  go_simp
  by_cases h1 : a = a'
  · by_cases h2 : b = b'
    · by_cases h3 : c = c'
      · by_cases h4 : p.toList = p'.toList
        · have h5 := toList_same h4
          subst h5
          simp [h1, h2, h3]
        · have h5 : p ≠ p' := fun e => h4 (by rw [e])
          simp [h1, h2, h3, h4, h5]
      · simp [h1, h2, h3]
    · simp [h1, h2]
  · simp [h1]
/-- a release is itself -/
theorem rel_eq (n : ByteArray) (a b c : Int) (p s f : ByteArray) (y : Bool) (t : ByteArray) (W : World) :
    (Op.equalIn 10000 25 (.agg #[.string n, .int .i64 a, .int .i64 b, .int .i64 c, .string p, .string s, .string f, .bool y, .string t]) (.agg #[.string n, .int .i64 a, .int .i64 b, .int .i64 c, .string p, .string s, .string f, .bool y, .string t])).run Tryz.prog W = .ok true W := by
  go_simp
theorem release_as (r : Rel) (t : List UInt8) (e0 : Int) (h : relShow r = (t, e0)) (w : World) (hE : REnv w) (hs : r.v.p.size ≤ 9223372036854775807) :
    Calls Tryz.prog 8 #[.agg #[.string r.name, .int .i64 r.v.a, .int .i64 r.v.b, .int .i64 r.v.c, .string r.v.p, .string r.source, .string r.face, .bool r.yanked, .string r.note]] w fun e w' => e = .returned (.tuple #[.string (S t), .int .i64 e0]) ∧ Below w.heap.size w w' := by
  have := release_any r w hE hs
  unfold RelPost at this
  rw [h] at this
  exact this
theorem readRelease_as (s : ByteArray) (r : Rel) (e0 : Int) (h : RelIs s.data.toList r e0) (w : World) (hE : REnv w) (hs : s.size ≤ 100000) :
    Calls Tryz.prog 11 #[.string s] w fun e w' => e = .returned (.tuple #[.agg #[.string r.name, .int .i64 r.v.a, .int .i64 r.v.b, .int .i64 r.v.c, .string r.v.p, .string r.source, .string r.face, .bool r.yanked, .string r.note], .int .i64 e0]) ∧ Below w.heap.size w w' := by
  refine (readRelease_any s w hE hs).mono ?_
  rintro e w' ⟨r', e', he, hi, hb⟩
  obtain ⟨rfl, rfl⟩ := RelIs.uniq hi h
  exact ⟨he, hb⟩
theorem releaseKey_as (n : ByteArray) (v : V4) (t : List UInt8) (e0 : Int) (h : relKey n.data.toList v = (t, e0)) (w : World) (hE : Env w) (hs : v.p.size ≤ 9223372036854775807) :
    Calls Tryz.prog 15 #[.string n, .agg #[.int .i64 v.a, .int .i64 v.b, .int .i64 v.c, .string v.p]] w fun e w' => e = .returned (.tuple #[.string (S t), .int .i64 e0]) ∧ Below w.heap.size w w' := by
  have := releaseKey_any n v w hE hs
  rw [h] at this
  exact this
theorem readKey_as (s : ByteArray) (n : List UInt8) (v : V4) (is : Bool) (e0 : Int) (h : KeyIs s.data.toList n v is e0) (w : World) (hE : Env w) (hs : s.size < 4294967281) :
    Calls Tryz.prog 17 #[.string s] w fun e w' => e = .returned (.tuple #[.string (S n), .agg #[.int .i64 v.a, .int .i64 v.b, .int .i64 v.c, .string v.p], .bool is, .int .i64 e0]) ∧ Below w.heap.size w w' := by
  refine (readKey_any s w hE hs).mono ?_
  rintro e w' ⟨n', v', is', e', he, hi, hb⟩
  obtain ⟨rfl, rfl, rfl, rfl⟩ := KeyIs.uniq hi h
  exact ⟨he, hb⟩
theorem aw_release (W : World) (hE : REnv W) : Calls Tryz.prog 8 #[.agg #[.string ⟨#[112]⟩, .int .i64 1, .int .i64 0, .int .i64 0, .string ⟨#[]⟩, .string ⟨#[120]⟩, .string ⟨#[]⟩, .bool false, .string ⟨#[]⟩]] W fun e w' => e = .returned (.tuple #[.string ⟨#[6, 1, 112, 5, 49, 46, 48, 46, 48, 1, 120, 0, 0, 0]⟩, .int .i64 0]) ∧ Below W.heap.size W w' :=
  release_as awR awT 0 (by rw [relShow_yes awR_ok, awR_text]) W hE (by decide)
theorem aw_read (W : World) (hE : REnv W) : Calls Tryz.prog 11 #[.string ⟨#[6, 1, 112, 5, 49, 46, 48, 46, 48, 1, 120, 0, 0, 0]⟩] W fun e w' => e = .returned (.tuple #[.agg #[.string ⟨#[112]⟩, .int .i64 1, .int .i64 0, .int .i64 0, .string ⟨#[]⟩, .string ⟨#[120]⟩, .string ⟨#[]⟩, .bool false, .string ⟨#[]⟩], .int .i64 0]) ∧ Below W.heap.size W w' :=
  readRelease_as (S awT) awR 0 (relIs_fit awR_ok awR_text) W hE (by decide)
theorem aw_key (W : World) (hE : Env W) : Calls Tryz.prog 15 #[.string ⟨#[112]⟩, .agg #[.int .i64 1, .int .i64 0, .int .i64 0, .string ⟨#[]⟩]] W fun e w' => e = .returned (.tuple #[.string ⟨#[114, 47, 112, 47, 49, 46, 48, 46, 48]⟩, .int .i64 0]) ∧ Below W.heap.size W w' :=
  releaseKey_as ⟨#[112]⟩ awV awK 0 awK_is W hE (by decide)
theorem aw_readKey (W : World) (hE : Env W) : Calls Tryz.prog 17 #[.string ⟨#[114, 47, 112, 47, 49, 46, 48, 46, 48]⟩] W fun e w' => e = .returned (.tuple #[.string ⟨#[112]⟩, .agg #[.int .i64 1, .int .i64 0, .int .i64 0, .string ⟨#[]⟩], .bool true, .int .i64 0]) ∧ Below W.heap.size W w' :=
  readKey_as (S awK) [112] awV true 0 (keyIs_rel (t := [49, 46, 48, 46, 48]) rfl (by decide) awv) W hE (by decide)
set_option maxRecDepth 100000 in
set_option maxHeartbeats 2000000 in
theorem awake_any (w : World) (hE : REnv w) :
    Calls Tryz.prog 10 #[] w fun e w' => e = .returned (.bool true) ∧ Below w.heap.size w w' := by
  have HE := Lib.hid hE
  have H1 := Lib.hid aw_release
  have H2 := Lib.hid aw_read
  have H3 := Lib.hid aw_key
  have H4 := Lib.hid aw_readKey
  have hW := (Below.refl w.heap.size w).alloc (Nat.le_refl _) (.cells #[.string ⟨#[112]⟩, .int .i64 1, .int .i64 0, .int .i64 0, .string ⟨#[]⟩, .string ⟨#[120]⟩, .string ⟨#[]⟩, .bool false, .string ⟨#[]⟩] 25)
  have hx0 := Below.refl (w.heap.size + 1) (w.alloc (.cells #[.string ⟨#[112]⟩, .int .i64 1, .int .i64 0, .int .i64 0, .string ⟨#[]⟩, .string ⟨#[120]⟩, .string ⟨#[]⟩, .bool false, .string ⟨#[]⟩] 25))
  clear hE
  go_enter Tryz.func10, Tryz.ntmps10
  go_wp2_with fail
  refine (H1.out _ (HE.out.below hW)).mono ?_
  rintro e w1 ⟨rfl, hb1⟩
  have hx1 := box_then hx0 hb1
  have hB1 := below_then hW hb1
  go_wp2_with fail
  refine (H2.out _ (HE.out.below hB1)).mono ?_
  rintro e w2 ⟨rfl, hb2⟩
  have hx2 := box_then hx1 hb2
  have hB2 := below_then hB1 hb2
  obtain ⟨⟨c0, c1, c2, c3, c4, c5, c6, c7, c8⟩, _⟩ := box_nine hx2
  have hz := cell_lt c0
  have hal2 : Below w2.heap.size w2 (w2.alloc (.cells #[.string ⟨#[112]⟩, .int .i64 1, .int .i64 0, .int .i64 0, .string ⟨#[]⟩, .string ⟨#[120]⟩, .string ⟨#[]⟩, .bool false, .string ⟨#[]⟩] 25)) := (Below.refl _ _).alloc (Nat.le_refl _) _
  have hB2' := below_then hB2 hal2
  have hx2' := box_then hx2 hal2
  have hy2 := Below.refl (w2.heap.size + 1) (w2.alloc (.cells #[.string ⟨#[112]⟩, .int .i64 1, .int .i64 0, .int .i64 0, .string ⟨#[]⟩, .string ⟨#[120]⟩, .string ⟨#[]⟩, .bool false, .string ⟨#[]⟩] 25))
  go_wp2_with fail
  refine (H3.out _ (HE.out.below hB2').env).mono ?_
  rintro e w3 ⟨rfl, hb3⟩
  have hx3 := box_then hx2' hb3
  have hy3 := box_then hy2 hb3
  have hB3 := below_then hB2' hb3
  clear c0 c1 c2 c3 c4 c5 c6 c7 c8
  go_wp2_with fail
  refine (H4.out _ (HE.out.below hB3).env).mono ?_
  rintro e w4 ⟨rfl, hb4⟩
  have hx4 := box_then hx3 hb4
  have hy4 := box_then hy3 hb4
  have hB4 := below_then hB3 hb4
  obtain ⟨⟨c0, c1, c2, c3, c4, c5, c6, c7, c8⟩, _⟩ := box_nine hx4
  obtain ⟨⟨d0, d1, d2, d3, d4, d5, d6, d7, d8⟩, _⟩ := box_nine hy4
  have hz0 := cell_lt c0
  have hz1 := cell_lt d0
  have hq := fun W => rel_eq ⟨#[112]⟩ 1 0 0 ⟨#[]⟩ ⟨#[120]⟩ ⟨#[]⟩ false ⟨#[]⟩ W
  have hv := fun W => rver_eq 1 0 0 ⟨#[]⟩ 1 0 0 ⟨#[]⟩ true (by simp) W
  go_wp2_with fail
  go_ret
  exact ⟨rfl, hB4.alloc hB4.size _⟩
end Go.Proofs.YtlhpgkaffbgkgaaGreatDoor
