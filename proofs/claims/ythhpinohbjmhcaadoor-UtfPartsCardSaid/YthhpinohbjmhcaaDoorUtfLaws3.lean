/- The law UtfBack: a walk. -/
import Derived.Test.YthhpinohbjmhcaaDoorUtfLaws2
namespace Go.Proofs.YthhpinohbjmhcaaDoor
open Go.RowKit
theorem back_enc (xs : List Int) (h : encOk xs = true) : decErr (S (encL xs)) = 0 ∧ decAt (S (encL xs)) = 0 ∧ decPts (S (encL xs)) = xs := by
  have hpts := Utf.pts_encAll (xs.map Int.toNat) [] (ok_good xs h)
  rw [Utf.pts_nil, List.append_nil, List.append_nil, Nat.add_zero] at hpts
  have hx : toI (xs.map Int.toNat) = xs := by
    unfold toI
    rw [List.map_map]
    conv => rhs; rw [← List.map_id xs]
    apply List.map_congr_left
    intro x hx
    have := List.all_eq_true.1 h x hx
    have hp : 0 ≤ x ∧ Utf.good x.toNat := by simpa [pointB] using this
    show ((x.toNat : Nat) : Int) = x
    omega
  have := (dec_all (S (encL xs)) (encL xs) (S_data _) _ _ hpts).2 rfl
  rw [hx] at this
  exact this
theorem back_dec_bad (s : ByteArray) (h : decBad s = true) : ∃ k : Nat, k < s.size ∧ decErr s = 30 ∧ decAt s = k ∧ decPts s = [] := by
  have hk : (Utf.pts s.data.toList).2 < s.size := by simpa [decBad] using h
  exact ⟨_, hk, (dec_all s s.data.toList rfl _ _ rfl).1 (by rw [← Lib.size_eq]; exact hk)⟩
theorem back_dec_ok (s : ByteArray) (h : decBad s = false) : decErr s = 0 ∧ decAt s = 0 ∧ encOk (decPts s) = true ∧ encStr (decPts s) = s ∧ encErr (decPts s) = 0 ∧ (decPts s).length ≤ s.size := by
  have hk : (Utf.pts s.data.toList).2 = s.data.toList.length := by
    have h1 := Utf.pts_le s.data.toList
    have h2 : ¬ (Utf.pts s.data.toList).2 < s.size := by simpa [decBad] using h
    rw [Lib.size_eq] at h2; omega
  have hd := (dec_all s s.data.toList rfl (Utf.pts s.data.toList).1 (Utf.pts s.data.toList).2 rfl).2 hk
  have hg := Utf.pts_good s.data.toList
  have ht := Utf.pts_take s.data.toList
  rw [hk, List.take_length] at ht
  have hm : (toI (Utf.pts s.data.toList).1).map Int.toNat = (Utf.pts s.data.toList).1 := by
    unfold toI
    rw [List.map_map]
    conv => rhs; rw [← List.map_id (Utf.pts s.data.toList).1]
    apply List.map_congr_left
    intro x _
    simp
  have hok : encOk (decPts s) = true := by
    rw [hd.2.2]
    unfold encOk toI
    rw [List.all_map, List.all_eq_true]
    intro p hp
    have := hg p hp
    simp [pointB, this]
  have hs := encStr_ok (decPts s) hok
  have hL : encL (decPts s) = s.data.toList := by
    unfold encL
    rw [hd.2.2, hm, ← ht]
  rw [hL] at hs
  refine ⟨hd.1, hd.2.1, hok, hs.1, hs.2, ?_⟩
  rw [hd.2.2, toI_length]
  have := Utf.pts_length s.data.toList
  rw [hk, ← Lib.size_eq] at this
  exact this
set_option maxRecDepth 100000 in
set_option maxHeartbeats 2000000 in
theorem utfBack_walk (v : Value) (xs : List Int) (s : ByteArray) (w : World) (hx : Ints w v xs) (hlen : ∃ a cap, v = .slice a xs.length cap) (hs : s.size ≤ maxLen) (hT : Tabs w) :
    Calls Tryd.prog 6 #[v, .string s] w fun e w' => e = .returned (.bool true) ∧ Below w.heap.size w w' := by
  obtain ⟨a, cap, rfl⟩ := hlen
  have hm := hx.cases.1
  unfold maxLen at hm hs
  have hTs := tabs_size hT
  have HT := Lib.hid hT
  have HX := Lib.hid hx
  clear hT hx
  by_cases hl : 5000 < xs.length
  · have q : decide ((5000 : Int) < (xs.length : Int)) = true := by simp; omega
    go_enter Tryd.func6, Tryd.ntmps6
    go_wp2_with (go_at_call 9; go_must (refine (awake_any _ HT.out).mono ?_); rintro e w9 ⟨rfl, hb9⟩)
    go_ret
    exact ⟨rfl, hb9⟩
  have q : decide ((5000 : Int) < (xs.length : Int)) = false := by simp; omega
  by_cases hl2 : 20000 < s.size
  · have q2 : decide ((20000 : Int) < (s.size : Int)) = true := by simp; omega
    go_enter Tryd.func6, Tryd.ntmps6
    go_wp2_with (go_at_call 9; go_must (refine (awake_any _ HT.out).mono ?_); rintro e w9 ⟨rfl, hb9⟩)
    go_ret
    exact ⟨rfl, hb9⟩
  have q2 : decide ((20000 : Int) < (s.size : Int)) = false := by simp; omega
  cases hA : encOk xs
  · have HE := Lib.hid (encStr_no xs hA)
    clear hA
    cases hD : decBad s
    · have HD := Lib.hid (back_dec_ok s hD)
      obtain ⟨m, hm⟩ : ∃ m, m = decPts s := ⟨_, rfl⟩
      rw [← hm] at HD
      have HM := Lib.hid hm.symm
      have hml := HD.out.2.2.2.2.2
      clear hD hm
      go_enter Tryd.func6, Tryd.ntmps6
      go_wp2_with fail
      refine (encode_as _ xs (S []) 30 HE.out.1 HE.out.2 _ HX.out (by omega)).mono ?_
      rintro e w1 ⟨rfl, hb1⟩
      have z1 := hb1.size
      have HTW := Lib.hid (tabs_below HT.out hb1 hTs.1 hTs.2)
      go_wp2_with fail
      refine (dec_as s 0 0 m HD.out.1 HD.out.2.1 HM.out (by omega) _ HTW.out).mono ?_
      rintro e w4 ⟨v4, rfl, hI4, hb4⟩
      have r4 := hb1.trans (hb4.mono hb1.size)
      have p4 := (Below.refl (w4.heap.size + 1) (w4.alloc (.cells #[.int .i64 0, .int .i64 0] 26)))
      go_wp2_with fail
      refine (encode_as _ m s 0 HD.out.2.2.2.1 HD.out.2.2.2.2.1 _ (Ints.below hI4 ((Below.refl _ _).alloc (Nat.le_refl _) _) (Nat.le_refl _)) (by omega)).mono ?_
      rintro e w5 ⟨rfl, hb5⟩
      have r5 := (r4.alloc r4.size (.cells #[.int .i64 0, .int .i64 0] 26)).trans (hb5.mono (by have := r4.size; simp; omega))
      have HT5 := Lib.hid (tabs_below HT.out r5 hTs.1 hTs.2)
      clear hI4
      go_wp2_with (go_at_call 9; go_must (refine (awake_any _ HT5.out).mono ?_); rintro e w9 ⟨rfl, hb9⟩)
      go_ret
      exact ⟨rfl, r5.trans (hb9.mono r5.size)⟩
    · obtain ⟨k, hk, hd1, hd2, hd3⟩ := back_dec_bad s hD
      have H1 := Lib.hid hd1
      have H2 := Lib.hid hd2
      have H3 := Lib.hid hd3
      clear hD hd1 hd2 hd3
      go_enter Tryd.func6, Tryd.ntmps6
      go_wp2_with fail
      refine (encode_as _ xs (S []) 30 HE.out.1 HE.out.2 _ HX.out (by omega)).mono ?_
      rintro e w1 ⟨rfl, hb1⟩
      have z1 := hb1.size
      have HTW := Lib.hid (tabs_below HT.out hb1 hTs.1 hTs.2)
      go_wp2_with fail
      refine (dec_as s 30 k [] H1.out H2.out H3.out (by omega) _ HTW.out).mono ?_
      rintro e w4 ⟨v4, rfl, hI4, hb4⟩
      obtain ⟨a4, cap4, rfl⟩ := Ints_shape hI4
      have r4 := hb1.trans (hb4.mono hb1.size)
      have HT5 := Lib.hid (tabs_below HT.out (r4.alloc r4.size (.cells #[.int .i64 30, .int .i64 k] 26)) hTs.1 hTs.2)
      clear hI4
      go_wp2_with (go_at_call 9; go_must (refine (awake_any _ HT5.out).mono ?_); rintro e w9 ⟨rfl, hb9⟩)
      go_ret
      exact ⟨rfl, (r4.alloc r4.size _).trans (hb9.mono (by have := r4.size; simp; omega))⟩
  · have HE := Lib.hid (encStr_ok xs hA)
    have hsz := encL_size xs
    have HB := Lib.hid (back_enc xs hA)
    obtain ⟨t0, ht0⟩ : ∃ t0, t0 = S (encL xs) := ⟨_, rfl⟩
    rw [← ht0] at HE HB hsz
    clear hA ht0
    cases hD : decBad s
    · have HD := Lib.hid (back_dec_ok s hD)
      obtain ⟨m, hm⟩ : ∃ m, m = decPts s := ⟨_, rfl⟩
      rw [← hm] at HD
      have HM := Lib.hid hm.symm
      have hml := HD.out.2.2.2.2.2
      clear hD hm
      go_enter Tryd.func6, Tryd.ntmps6
      go_wp2_with fail
      refine (encode_as _ xs t0 0 HE.out.1 HE.out.2 _ HX.out (by omega)).mono ?_
      rintro e w1 ⟨rfl, hb1⟩
      have z1 := hb1.size
      have HT1 := Lib.hid (tabs_below HT.out hb1 hTs.1 hTs.2)
      go_wp2_with fail
      refine (dec_as t0 0 0 xs HB.out.1 HB.out.2.1 HB.out.2.2 (by omega) _ HT1.out).mono ?_
      rintro e w2 ⟨v2, rfl, hI2, hb2⟩
      have r2 := hb1.trans (hb2.mono z1)
      go_wp2_with fail
      refine (same_t _ _ xs xs _ rfl (Ints.below hI2 ((Below.refl _ _).alloc (Nat.le_refl _) _) (Nat.le_refl _)) (Ints.below HX.out (r2.alloc r2.size _) (Nat.le_refl _))).mono ?_
      rintro e w3 ⟨rfl, hb3⟩
      have r3 := (r2.alloc r2.size (.cells #[.int .i64 0, .int .i64 0] 26)).trans (hb3.mono (by have := r2.size; simp; omega))
      have HTW := Lib.hid (tabs_below HT.out r3 hTs.1 hTs.2)
      clear hI2
      go_wp2_with fail
      refine (dec_as s 0 0 m HD.out.1 HD.out.2.1 HM.out (by omega) _ HTW.out).mono ?_
      rintro e w4 ⟨v4, rfl, hI4, hb4⟩
      have r4 := r3.trans (hb4.mono r3.size)
      have p4 := (Below.refl (w4.heap.size + 1) (w4.alloc (.cells #[.int .i64 0, .int .i64 0] 26)))
      go_wp2_with fail
      refine (encode_as _ m s 0 HD.out.2.2.2.1 HD.out.2.2.2.2.1 _ (Ints.below hI4 ((Below.refl _ _).alloc (Nat.le_refl _) _) (Nat.le_refl _)) (by omega)).mono ?_
      rintro e w5 ⟨rfl, hb5⟩
      have r5 := (r4.alloc r4.size (.cells #[.int .i64 0, .int .i64 0] 26)).trans (hb5.mono (by have := r4.size; simp; omega))
      have HT5 := Lib.hid (tabs_below HT.out r5 hTs.1 hTs.2)
      clear hI4
      go_wp2_with (go_at_call 9; go_must (refine (awake_any _ HT5.out).mono ?_); rintro e w9 ⟨rfl, hb9⟩)
      go_ret
      exact ⟨rfl, r5.trans (hb9.mono r5.size)⟩
    · obtain ⟨k, hk, hd1, hd2, hd3⟩ := back_dec_bad s hD
      have H1 := Lib.hid hd1
      have H2 := Lib.hid hd2
      have H3 := Lib.hid hd3
      clear hD hd1 hd2 hd3
      go_enter Tryd.func6, Tryd.ntmps6
      go_wp2_with fail
      refine (encode_as _ xs t0 0 HE.out.1 HE.out.2 _ HX.out (by omega)).mono ?_
      rintro e w1 ⟨rfl, hb1⟩
      have z1 := hb1.size
      have HT1 := Lib.hid (tabs_below HT.out hb1 hTs.1 hTs.2)
      go_wp2_with fail
      refine (dec_as t0 0 0 xs HB.out.1 HB.out.2.1 HB.out.2.2 (by omega) _ HT1.out).mono ?_
      rintro e w2 ⟨v2, rfl, hI2, hb2⟩
      have r2 := hb1.trans (hb2.mono z1)
      go_wp2_with fail
      refine (same_t _ _ xs xs _ rfl (Ints.below hI2 ((Below.refl _ _).alloc (Nat.le_refl _) _) (Nat.le_refl _)) (Ints.below HX.out (r2.alloc r2.size _) (Nat.le_refl _))).mono ?_
      rintro e w3 ⟨rfl, hb3⟩
      have r3 := (r2.alloc r2.size (.cells #[.int .i64 0, .int .i64 0] 26)).trans (hb3.mono (by have := r2.size; simp; omega))
      have HTW := Lib.hid (tabs_below HT.out r3 hTs.1 hTs.2)
      clear hI2
      go_wp2_with fail
      refine (dec_as s 30 k [] H1.out H2.out H3.out (by omega) _ HTW.out).mono ?_
      rintro e w4 ⟨v4, rfl, hI4, hb4⟩
      obtain ⟨a4, cap4, rfl⟩ := Ints_shape hI4
      have r4 := r3.trans (hb4.mono r3.size)
      have HT5 := Lib.hid (tabs_below HT.out (r4.alloc r4.size (.cells #[.int .i64 30, .int .i64 k] 26)) hTs.1 hTs.2)
      clear hI4
      go_wp2_with (go_at_call 9; go_must (refine (awake_any _ HT5.out).mono ?_); rintro e w9 ⟨rfl, hb9⟩)
      go_ret
      exact ⟨rfl, (r4.alloc r4.size _).trans (hb9.mono (by have := r4.size; simp; omega))⟩
end Go.Proofs.YthhpinohbjmhcaaDoor
