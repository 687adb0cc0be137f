/- The probes of the laws of layer 3: a walk. -/
import Derived.Test.YthhpinohbjmhcaaDoorUtfPlace
import Derived.Test.YthhpinohbjmhcaaDoorUtfEnc2
import Derived.Test.YthhpinohbjmhcaaDoorUtfRef3
namespace Go.Proofs.YthhpinohbjmhcaaDoor
open Go.RowKit
theorem bcell {W w1 : World} (hb : Below W.heap.size W w1) : (∀ b o, b < W.heap.size → w1.cell? ⟨b, o, none⟩ = W.cell? ⟨b, o, none⟩) ∧ (∀ b o, b < W.heap.size → w1.frozen? ⟨b, o, none⟩ = W.frozen? ⟨b, o, none⟩) :=
  ⟨fun b o h => hb.cell (p := ⟨b, o, none⟩) h, fun b o h => hb.frozen (p := ⟨b, o, none⟩) h⟩
def DecAs (err at_ : Int) (xs : List Int) (w : World) (e : Ending) (w' : World) : Prop :=
  ∃ v, e = .returned (.tuple #[v, .agg #[.int .i64 err, .int .i64 at_]]) ∧ Ints w' v xs ∧ Below w.heap.size w w'
theorem dec_as (s : ByteArray) (err at_ : Int) (xs : List Int) (h1 : decErr s = err) (h2 : decAt s = at_) (h3 : decPts s = xs) (hs : s.size ≤ 100000) (w : World) (hT : Lib.Utf8Tabs 0 1 w) :
    Calls Tryd.prog 10 #[.string s] w (DecAs err at_ xs w) := by
  subst h1 h2 h3
  exact utfDecode_any s w hs hT
theorem place_as (s : ByteArray) (p l c e0 : Int) (h1 : plLine s p = l) (h2 : plCol s p = c) (h3 : plErr s p = e0) (hs : s.size ≤ 100000) (w : World) (hT : Lib.Utf8Tabs 0 1 w) :
    Calls Tryd.prog 15 #[.string s, .int .i64 p] w fun e w' => e = .returned (.tuple #[.int .i64 l, .int .i64 c, .int .i64 e0]) ∧ Below w.heap.size w w' := by
  subst h1 h2 h3
  exact utfPlace_any s p w hs hT
theorem encode_as (v : Value) (xs : List Int) (s : ByteArray) (e0 : Int) (h1 : encStr xs = s) (h2 : encErr xs = e0) (w : World) (hx : Ints w v xs) (hs : xs.length ≤ 20000) :
    Calls Tryd.prog 13 #[v] w fun e w' => e = .returned (.tuple #[.string s, .int .i64 e0]) ∧ Below w.heap.size w w' := by
  subst h1 h2
  exact utfEncode_any v xs w hx hs
theorem same_t (v u : Value) (xs ys : List Int) (w : World) (h : xs = ys) (hx : Ints w v xs) (hy : Ints w u ys) :
    Calls Tryd.prog 12 #[v, u] w fun e w' => e = .returned (.bool true) ∧ Below w.heap.size w w' := by
  subst h
  have := same_any v u xs xs w hx hy
  rw [sameB_self] at this
  exact this
/-- a row of ints that was just laid -/
theorem ints_new (w : World) (xs : List Int) (T : TypeId) (cap : Nat) (hn : 0 < xs.length) (hm : xs.length ≤ maxLen) : Ints (w.alloc (.cells (ints xs).toArray T)) (.slice (some ⟨w.heap.size, 0, none⟩) xs.length cap) xs := by
  have e : (w.alloc (.cells (ints xs).toArray T)).heap[w.heap.size]? = some (.cells (ints xs).toArray T) := by
    show (w.heap.push _)[w.heap.size]? = _
    simp
  refine ⟨by rw [ints_length]; omega, hm, .inr ⟨w.heap.size, 0, cap, rfl, hn, ?_, fun j hj => ?_⟩⟩
  · show w.heap.size < (w.heap.push _).size
    simp
  · simp only [World.cell?, e, Nat.zero_add, Option.isSome_none, Bool.false_eq_true, if_false]
    simp
set_option maxRecDepth 100000 in
set_option maxHeartbeats 1000000 in
theorem awake_any (w : World) (hT : Lib.Utf8Tabs 0 1 w) :
    Calls Tryd.prog 9 #[] w fun e w' => e = .returned (.bool true) ∧ Below w.heap.size w w' := by
  have hTs := tabs_size hT
  have HT := Lib.hid hT
  clear hT
  go_enter Tryd.func9, Tryd.ntmps9
  go_wp2_with fail
  refine (dec_as ⟨#[97, 195, 169]⟩ 0 0 [97, 233] (by kernel_rfl) (by kernel_rfl) (by kernel_rfl) (by decide) _ HT.out).mono ?_
  rintro e w1 ⟨v1, rfl, hI1, hb1⟩
  have hz1 := hb1.size
  go_wp2_with fail
  refine (dec_as ⟨#[97, 192, 128]⟩ 30 1 [] (by kernel_rfl) (by kernel_rfl) (by kernel_rfl) (by decide) _ (tabs_below HT.out (hb1.alloc hb1.size _) hTs.1 hTs.2)).mono ?_
  rintro e w2 ⟨v2, rfl, hI2, hb2⟩
  have hb2' := (hb1.alloc hb1.size _).trans (hb2.mono (by simp; omega))
  have hz2 := hb2.size
  simp at hz2
  go_wp2_with fail
  refine (encode_as _ [55296] ⟨#[]⟩ 30 (by kernel_rfl) (by kernel_rfl) _ (by simpa [ints] using ints_new (w2.alloc _) [55296] 3 1 (by decide) (by decide)) (by decide)).mono ?_
  rintro e w3 ⟨rfl, hb3⟩
  have p2 : Below (w1.heap.size + 1) (w1.alloc (.cells #[.int .i64 0, .int .i64 0] 26)) w2 := hb2.mono (by simp)
  have z2 := p2.size
  simp at z2
  have p3 := ((p2.alloc z2 (.cells #[.int .i64 30, .int .i64 1] 26)).alloc (by simp; omega) (.cells #[.int .i64 55296] 3)).trans (hb3.mono (by simp; omega))
  have q3 : Below (w2.heap.size + 1) (w2.alloc (.cells #[.int .i64 30, .int .i64 1] 26)) w3 := ((Below.refl _ _).alloc (by simp) (.cells #[.int .i64 55296] 3)).trans (hb3.mono (by simp))
  have z3 := q3.size
  simp at z3
  have r3 := hb1.trans ((below_first p3).mono (by omega))
  go_wp2_with fail
  refine (place_as ⟨#[195, 169, 120]⟩ 2 1 2 0 (by kernel_rfl) (by kernel_rfl) (by kernel_rfl) (by decide) _ (tabs_below HT.out r3 hTs.1 hTs.2)).mono ?_
  rintro e w4 ⟨rfl, hb4⟩
  have p4 := p3.trans (hb4.mono (by omega))
  have q4 := q3.trans (hb4.mono (by omega))
  have z4 := q4.size
  simp at z4
  have r4 := r3.trans (hb4.mono (by omega))
  go_wp2_with fail
  refine (same_t _ _ [97, 233] [97, 233] _ rfl (Ints.below hI1 (((below_first p4).alloc (by omega) (.cells #[.int .i64 97, .int .i64 233] 3))) (Nat.le_refl _)) (ints_new w4 [97, 233] 3 2 (by decide) (by decide))).mono ?_
  rintro e w5 ⟨rfl, hb5⟩
  have p5 := (p4.alloc (by omega) (.cells #[.int .i64 97, .int .i64 233] 3)).trans (hb5.mono (by simp; omega))
  have q5 := (q4.alloc (by omega) (.cells #[.int .i64 97, .int .i64 233] 3)).trans (hb5.mono (by simp; omega))
  obtain ⟨c1, c2, _, _, _⟩ := pair_cells p5
  obtain ⟨c3, c4, _, _, _⟩ := pair_cells q5
  have r5 := hb1.trans ((below_first p5).mono (by omega))
  clear p2 p3 q3 p4 q4 p5 q5 r3 r4 hb1 hb2 hb3 hb4 hb5 hb2' hI1 hI2
  go_wp2_with fail
  go_ret
  exact ⟨rfl, r5⟩
end Go.Proofs.YthhpinohbjmhcaaDoor
