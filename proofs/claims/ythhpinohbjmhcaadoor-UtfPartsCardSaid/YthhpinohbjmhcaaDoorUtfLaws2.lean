/- The laws UtfCuts and UtfBack: walks. -/
import Derived.Test.YthhpinohbjmhcaaDoorUtfLaws1
namespace Go.Proofs.YthhpinohbjmhcaaDoor
open Go.RowKit
theorem Ints_shape {w : World} {v : Value} {xs : List Int} (h : Ints w v xs) : ∃ a cap, v = .slice a xs.length cap := by
  obtain ⟨_, ⟨a, cap, h1, h2⟩ | ⟨b, off, cap, h1, _⟩⟩ := h.cases
  · subst h2; exact ⟨a, cap, h1⟩
  · exact ⟨_, cap, h1⟩
theorem ok_good (xs : List Int) (h : encOk xs = true) : ∀ p ∈ xs.map Int.toNat, Utf.good p := by
  intro p hp
  obtain ⟨x, hx, rfl⟩ := List.mem_map.1 hp
  have := List.all_eq_true.1 h x hx
  have hp : 0 ≤ x ∧ Utf.good x.toNat := by simpa [pointB] using this
  exact hp.2
theorem encStr_ok (xs : List Int) (h : encOk xs = true) : encStr xs = S (encL xs) ∧ encErr xs = 0 := by unfold encStr encErr; rw [h]; exact ⟨rfl, rfl⟩
theorem encStr_no (xs : List Int) (h : encOk xs = false) : encStr xs = S [] ∧ encErr xs = 30 := by unfold encStr encErr; rw [h]; exact ⟨rfl, rfl⟩
theorem encL_one (p : Int) : encL [p] = Utf.enc p.toNat := by simp [encL, Utf.encAll]
theorem encL_size (xs : List Int) : (S (encL xs)).size ≤ 4 * xs.length := by
  rw [S_size]; have := encL_le xs xs.length; rwa [List.take_of_length_le (Nat.le_refl _)] at this
theorem dec_all (s : ByteArray) (l : List UInt8) (hs : s.data.toList = l) (ps : List Nat) (k : Nat) (h : Utf.pts l = (ps, k)) :
    (k < l.length → decErr s = 30 ∧ decAt s = k ∧ decPts s = []) ∧ (k = l.length → decErr s = 0 ∧ decAt s = 0 ∧ decPts s = toI ps) := by
  have hz : s.size = l.length := by rw [Lib.size_eq, hs]
  refine ⟨fun hk => ?_, fun hk => ?_⟩
  · have hB : decBad s = true := by unfold decBad; rw [hs, h, hz]; simpa using hk
    unfold decErr decAt decPts; rw [hB, hs, h]; simp
  · have hB : decBad s = false := by unfold decBad; rw [hs, h, hz]; simp; omega
    unfold decErr decAt decPts; rw [hB, hs, h]; simp
theorem dec_cut_spec (xs : List Int) (p : Int) (a : Nat) (hok : encOk xs = true) (hp : pointB p = true) (h1 : 1 ≤ a) (h2 : a < (Utf.enc p.toNat).length) :
    decErr (S (encL xs) ++ (S (Utf.enc p.toNat)).extract 0 a) = 30 ∧ decAt (S (encL xs) ++ (S (Utf.enc p.toNat)).extract 0 a) = (S (encL xs)).size ∧ decPts (S (encL xs) ++ (S (Utf.enc p.toNat)).extract 0 a) = [] := by
  have hpp : 0 ≤ p ∧ Utf.good p.toNat := by simpa [pointB] using hp
  have hd := Utf.dec_cut p.toNat a hpp.2 h1 h2
  rw [S_extract, S_append, List.drop_zero, S_size]
  have hpts := Utf.pts_encAll (xs.map Int.toNat) ((Utf.enc p.toNat).take a) (ok_good xs hok)
  rw [Utf.pts_bad _ (.inr hd), List.append_nil, Nat.add_zero] at hpts
  exact (dec_all (S (encL xs ++ (Utf.enc p.toNat).take a)) _ (S_data _) _ _ hpts).1 (by
    rw [List.length_append, List.length_take]
    show (encL xs).length < _
    omega)
set_option maxRecDepth 100000 in
set_option maxHeartbeats 2000000 in
theorem utfCuts_walk (v : Value) (xs : List Int) (p at_ : Int) (w : World) (hx : Ints w v xs) (hlen : ∃ a cap, v = .slice a xs.length cap) (hT : Tabs w) :
    Calls Tryd.prog 8 #[v, .int .i64 p, .int .i64 at_] w fun e w' => e = .returned (.bool true) ∧ Below w.heap.size w w' := by
  obtain ⟨a, cap, rfl⟩ := hlen
  have hm := hx.cases.1
  unfold maxLen at hm
  have hTs := tabs_size hT
  have HT := Lib.hid hT
  have HX := Lib.hid hx
  clear hT hx
  by_cases hl : 5000 < xs.length
  · have q : decide ((5000 : Int) < (xs.length : Int)) = true := by simp; omega
    go_enter Tryd.func8, Tryd.ntmps8
    go_wp2_with (go_at_call 9; go_must (refine (awake_any _ HT.out).mono ?_); rintro e w9 ⟨rfl, hb9⟩)
    go_ret
    exact ⟨rfl, hb9⟩
  have q : decide ((5000 : Int) < (xs.length : Int)) = false := by simp; omega
  have hsz := encL_size xs
  cases hA : encOk xs
  · have HE := Lib.hid (encStr_no xs hA)
    clear hA
    go_enter Tryd.func8, Tryd.ntmps8
    go_wp2_with fail
    refine (encode_as _ xs (S []) 30 HE.out.1 HE.out.2 _ HX.out (by omega)).mono ?_
    rintro e w1 ⟨rfl, hb1⟩
    have z1 := hb1.size
    go_wp2_with fail
    refine (encode_as _ [p] (encStr [p]) (encErr [p]) rfl rfl _ (ints_new w1 [p] 3 1 (by simp) (by simp [maxLen])) (by simp)).mono ?_
    rintro e w2 ⟨rfl, hb2⟩
    have r2 := (hb1.alloc z1 (.cells #[.int .i64 p] 3)).trans (hb2.mono (by simp; omega))
    have HT2 := Lib.hid (tabs_below HT.out r2 hTs.1 hTs.2)
    go_wp2_with (go_at_call 9; go_must (refine (awake_any _ HT2.out).mono ?_); rintro e w9 ⟨rfl, hb9⟩)
    go_ret
    exact ⟨rfl, r2.trans (hb9.mono r2.size)⟩
  have HE := Lib.hid (encStr_ok xs hA)
  have HA := Lib.hid hA
  clear hA
  cases hB : encOk [p]
  · have HE2 := Lib.hid (encStr_no [p] hB)
    clear hB
    go_enter Tryd.func8, Tryd.ntmps8
    go_wp2_with fail
    refine (encode_as _ xs (S (encL xs)) 0 HE.out.1 HE.out.2 _ HX.out (by omega)).mono ?_
    rintro e w1 ⟨rfl, hb1⟩
    have z1 := hb1.size
    go_wp2_with fail
    refine (encode_as _ [p] (S []) 30 HE2.out.1 HE2.out.2 _ (ints_new w1 [p] 3 1 (by simp) (by simp [maxLen])) (by simp)).mono ?_
    rintro e w2 ⟨rfl, hb2⟩
    have r2 := (hb1.alloc z1 (.cells #[.int .i64 p] 3)).trans (hb2.mono (by simp; omega))
    have HT2 := Lib.hid (tabs_below HT.out r2 hTs.1 hTs.2)
    go_wp2_with (go_at_call 9; go_must (refine (awake_any _ HT2.out).mono ?_); rintro e w9 ⟨rfl, hb9⟩)
    go_ret
    exact ⟨rfl, r2.trans (hb9.mono r2.size)⟩
  have HE2 := Lib.hid (show encStr [p] = S (Utf.enc p.toNat) ∧ encErr [p] = 0 by have := encStr_ok [p] hB; rwa [encL_one] at this)
  have HB : Hid (pointB p = true) := by
    show _ = _
    simpa [encOk] using hB
  clear hB
  obtain ⟨t, ht⟩ : ∃ t, t = S (Utf.enc p.toNat) := ⟨_, rfl⟩
  have hts : t.size = (Utf.enc p.toNat).length := by rw [ht, S_size]
  have hts4 : t.size ≤ 4 := by rw [hts]; exact (Utf.enc_length _).2
  rw [← ht] at HE2
  have HTT := Lib.hid ht
  have HTS := Lib.hid hts
  clear ht hts
  by_cases h1 : at_ < 1
  · have q1 : decide (at_ < 1) = true := by simpa using h1
    go_enter Tryd.func8, Tryd.ntmps8
    go_wp2_with fail
    refine (encode_as _ xs (S (encL xs)) 0 HE.out.1 HE.out.2 _ HX.out (by omega)).mono ?_
    rintro e w1 ⟨rfl, hb1⟩
    have z1 := hb1.size
    go_wp2_with fail
    refine (encode_as _ [p] t 0 HE2.out.1 HE2.out.2 _ (ints_new w1 [p] 3 1 (by simp) (by simp [maxLen])) (by simp)).mono ?_
    rintro e w2 ⟨rfl, hb2⟩
    have r2 := (hb1.alloc z1 (.cells #[.int .i64 p] 3)).trans (hb2.mono (by simp; omega))
    have HT2 := Lib.hid (tabs_below HT.out r2 hTs.1 hTs.2)
    go_wp2_with (go_at_call 9; go_must (refine (awake_any _ HT2.out).mono ?_); rintro e w9 ⟨rfl, hb9⟩)
    go_ret
    exact ⟨rfl, r2.trans (hb9.mono r2.size)⟩
  have q1 : decide (at_ < 1) = false := by simpa using h1
  by_cases h2 : (t.size : Int) ≤ at_
  · have q2 : decide ((t.size : Int) ≤ at_) = true := by simpa using h2
    go_enter Tryd.func8, Tryd.ntmps8
    go_wp2_with fail
    refine (encode_as _ xs (S (encL xs)) 0 HE.out.1 HE.out.2 _ HX.out (by omega)).mono ?_
    rintro e w1 ⟨rfl, hb1⟩
    have z1 := hb1.size
    go_wp2_with fail
    refine (encode_as _ [p] t 0 HE2.out.1 HE2.out.2 _ (ints_new w1 [p] 3 1 (by simp) (by simp [maxLen])) (by simp)).mono ?_
    rintro e w2 ⟨rfl, hb2⟩
    have r2 := (hb1.alloc z1 (.cells #[.int .i64 p] 3)).trans (hb2.mono (by simp; omega))
    have HT2 := Lib.hid (tabs_below HT.out r2 hTs.1 hTs.2)
    go_wp2_with (go_at_call 9; go_must (refine (awake_any _ HT2.out).mono ?_); rintro e w9 ⟨rfl, hb9⟩)
    go_ret
    exact ⟨rfl, r2.trans (hb9.mono r2.size)⟩
  · have q2 : decide ((t.size : Int) ≤ at_) = false := by simpa using h2
    obtain ⟨b, rfl⟩ := Int.eq_ofNat_of_zero_le (show 0 ≤ at_ by omega)
    have hb1' : 1 ≤ b := by omega
    have hb2' : b < t.size := by omega
    have HD := Lib.hid (dec_cut_spec xs p b HA.out HB.out hb1' (by rw [← HTS.out]; exact hb2'))
    rw [← HTT.out] at HD
    obtain ⟨s0, hs0⟩ : ∃ s0, s0 = S (encL xs) := ⟨_, rfl⟩
    rw [← hs0] at HE HD hsz
    have HS0 := Lib.hid hs0
    clear hs0 h1 h2
    go_enter Tryd.func8, Tryd.ntmps8
    go_wp2_with fail
    refine (encode_as _ xs s0 0 HE.out.1 HE.out.2 _ HX.out (by omega)).mono ?_
    rintro e w1 ⟨rfl, hb1⟩
    have z1 := hb1.size
    go_wp2_with fail
    refine (encode_as _ [p] t 0 HE2.out.1 HE2.out.2 _ (ints_new w1 [p] 3 1 (by simp) (by simp [maxLen])) (by simp)).mono ?_
    rintro e w2 ⟨rfl, hb2⟩
    have r2 := (hb1.alloc z1 (.cells #[.int .i64 p] 3)).trans (hb2.mono (by simp; omega))
    have HT2 := Lib.hid (tabs_below HT.out r2 hTs.1 hTs.2)
    go_wp2_with fail
    refine (dec_as _ 30 s0.size [] HD.out.1 HD.out.2.1 HD.out.2.2 (by simp; omega) _ HT2.out).mono ?_
    rintro e w3 ⟨v3, rfl, hI3, hb3⟩
    obtain ⟨a3, cap3, rfl⟩ := Ints_shape hI3
    have r3 := r2.trans (hb3.mono r2.size)
    have HT3 := Lib.hid (tabs_below HT.out (r3.alloc r3.size (.cells #[.int .i64 30, .int .i64 s0.size] 26)) hTs.1 hTs.2)
    clear hI3
    go_wp2_with (go_at_call 9; go_must (refine (awake_any _ HT3.out).mono ?_); rintro e w9 ⟨rfl, hb9⟩)
    go_ret
    exact ⟨rfl, (r3.alloc r3.size _).trans (hb9.mono (by have := r3.size; simp; omega))⟩
end Go.Proofs.YthhpinohbjmhcaaDoor
