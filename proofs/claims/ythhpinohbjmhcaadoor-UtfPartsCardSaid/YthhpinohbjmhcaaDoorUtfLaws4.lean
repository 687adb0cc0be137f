/- The law UtfParts: a walk. -/
import Derived.Test.YthhpinohbjmhcaaDoorUtfLaws3
namespace Go.Proofs.YthhpinohbjmhcaaDoor
open Go.RowKit
theorem parts_ok (a b : ByteArray) (h : decBad a = false) :
    (decBad b = false → decErr (a ++ b) = 0 ∧ decAt (a ++ b) = 0 ∧ decPts (a ++ b) = decPts a ++ decPts b) ∧
    (decBad b = true → ∃ k : Nat, k < b.size ∧ decErr b = 30 ∧ decAt b = k ∧ decErr (a ++ b) = 30 ∧ decAt (a ++ b) = (k : Int) + a.size ∧ decPts (a ++ b) = []) := by
  have hk : (Utf.pts a.data.toList).2 = a.data.toList.length := by
    have h1 := Utf.pts_le a.data.toList
    have h2 : ¬ (Utf.pts a.data.toList).2 < a.size := by simpa [decBad] using h
    rw [Lib.size_eq] at h2; omega
  have ht := Utf.pts_take a.data.toList
  rw [hk, List.take_length] at ht
  have hpts := Utf.pts_encAll (Utf.pts a.data.toList).1 b.data.toList (Utf.pts_good _)
  rw [← ht] at hpts
  have hab : (a ++ b).data.toList = a.data.toList ++ b.data.toList := by simp
  have hall := dec_all (a ++ b) _ hab _ _ hpts
  have ha := (dec_all a a.data.toList rfl (Utf.pts a.data.toList).1 (Utf.pts a.data.toList).2 rfl).2 hk
  have hb := dec_all b b.data.toList rfl (Utf.pts b.data.toList).1 (Utf.pts b.data.toList).2 rfl
  refine ⟨fun hB => ?_, fun hB => ?_⟩
  · have hkb : (Utf.pts b.data.toList).2 = b.data.toList.length := by
      have h1 := Utf.pts_le b.data.toList
      have h2 : ¬ (Utf.pts b.data.toList).2 < b.size := by simpa [decBad] using hB
      rw [Lib.size_eq] at h2; omega
    have h1 := hall.2 (by rw [List.length_append, hkb])
    refine ⟨h1.1, h1.2.1, ?_⟩
    rw [h1.2.2, ha.2.2, (hb.2 hkb).2.2]
    simp [toI]
  · have hkb : (Utf.pts b.data.toList).2 < b.size := by simpa [decBad] using hB
    have hkb' : (Utf.pts b.data.toList).2 < b.data.toList.length := by rw [← Lib.size_eq]; exact hkb
    have h1 := hall.1 (by rw [List.length_append]; omega)
    refine ⟨_, hkb, (hb.1 hkb').1, (hb.1 hkb').2.1, h1.1, ?_, h1.2.2⟩
    rw [h1.2.1, Lib.size_eq]
    simp; omega
/-- appending a row of ints that may be empty, nil or not -/
theorem ints_append (xs ys : List Int) : ints xs ++ ints ys = ints (xs ++ ys) := by simp [ints]
theorem nilcap {w : World} {c n : Nat} {xs : List Int} (h : Ints w (.slice none n c) xs) : n = 0 ∧ c = 0 ∧ xs = [] := by
  obtain ⟨_, _, ⟨a, cap, h1, h2, h3⟩ | ⟨b, off, cap, h1, _⟩⟩ := h
  · simp only [Value.slice.injEq] at h1
    obtain ⟨rfl, rfl, rfl⟩ := h1
    exact ⟨rfl, h3 rfl, List.eq_nil_of_length_eq_zero h2⟩
  · simp at h1
/-- the cells behind a slice of ints -/
theorem ints_news {w : World} {ad : Addr} {n c : Nat} {xs : List Int} (h : Ints w (.slice (some ad) n c) xs) : n = xs.length ∧ ∀ j u, (ints xs)[j]? = some u → w.cell? (ad.add j) = some u := by
  obtain ⟨_, ⟨a, cap, h1, h2⟩ | ⟨b, off, cap, h1, _, _, hc⟩⟩ := h.cases
  · subst h2
    simp only [Value.slice.injEq] at h1
    exact ⟨h1.2.1, fun j u hj => by simp [ints] at hj⟩
  · simp only [Value.slice.injEq, Option.some.injEq] at h1
    obtain ⟨rfl, rfl, rfl⟩ := h1
    refine ⟨rfl, fun j u hj => ?_⟩
    have hjl : j < xs.length := by
      rcases Nat.lt_or_ge j xs.length with hh | hh
      · exact hh
      · rw [List.getElem?_eq_none (by rw [ints_length]; exact hh)] at hj; cases hj
    rw [ints_get xs j hjl] at hj
    have ha : (⟨b, off, none⟩ : Addr).add j = ⟨b, off + j, none⟩ := by unfold Addr.add; split <;> simp_all
    rw [ha, hc j hjl, hj]
theorem ints_one (xs : List Int) : ∀ u ∈ ints xs, u.oneCell' = true := by
  intro u hu
  obtain ⟨x, _, rfl⟩ := List.mem_map.1 hu
  rfl
/-- an append whose run is known, guarded or not -/
theorem wpList_append_run {P : Program} {ops : Array Oper} {rest : List Oper} {o : Oper} {a : Act} {Q : Exit → Act → World → Prop} {w w' : World} {v : Value} (hw : Region.wanted o (yielded ops a.tmps) = true) (s x : Operand) (t : TypeId)
    (ho : o.op = .call { callee := .builtin .append, args := #[s, x], argTypes := #[t, t] }) (vs vx : Value) (hs : a.eval s = vs) (hx : a.eval x = vx)
    (hrun : (Builtin.append_ #[t, t] o.type #[vs, vx]).run P w = .ok v w') (h : wpList P ops Q rest (a.put o.dst v) w') : wpList P ops Q (o :: rest) a w := by
  refine wpList_step fun K hK => ?_
  rw [if_pos hw]
  unfold Oper.wp
  simp [execOp, ho, resolve, invoke, builtin, hs, hx, hrun, Result.andThen]
  exact hK _ _ h
/-- 'append(own, src...)' of ints: the run, whatever the source -/
theorem app_ints {w : World} {base : Nat} {v : Value} {n cap : Nat} {xs m : List Int} {a : Option Addr} (hown : w.ownsRow base 3 1 v n (ints xs)) (hsrc : Ints w (.slice a m.length cap) m)
    (hlen : n + m.length ≤ 100000) (hbase : base ≤ w.heap.size) :
    ∃ v' w', (Builtin.append_ #[23, 23] 23 #[v, .slice a m.length cap]).run Tryd.prog w = .ok v' w' ∧ w'.ownsRow base 3 1 v' (n + m.length) (ints (xs ++ m)) ∧ w.grownBy w' v.ownBlock := by
  obtain ⟨i0, hi, hz0, hz1, hz2⟩ := info_parts info_int
  cases a with
  | none =>
    obtain ⟨h0, h1, h2⟩ := nilcap hsrc
    subst h2 h1
    refine ⟨v, w, run_append_owned_none w base 23 23 3 i0 1 Tryd.underlying23 hi v n _ hown, by simpa using hown, ⟨rfl, rfl, rfl, Nat.le_refl _, fun _ _ _ => rfl⟩⟩
  | some ad =>
    obtain ⟨h0, h1⟩ := ints_news hsrc
    obtain ⟨v', w', h2, h3, h4, _⟩ := run_append_own (P := Tryd.prog) (w := w) base 23 23 3 i0 (.int .i64 0) 1 8 Tryd.underlying23 hi hz0 hz1 hz2 rfl (by decide) v n (ints xs) hown ad m.length cap (ints m) (by rw [ints_length]; omega) h1 (ints_one m) (by unfold maxLen; omega) (by omega) hbase
    exact ⟨v', w', h2, by rw [← ints_append]; exact h3, h4⟩
set_option maxRecDepth 100000 in
set_option maxHeartbeats 2000000 in
theorem utfParts_walk (a b : ByteArray) (w : World) (ha : a.size ≤ maxLen) (hb : b.size ≤ maxLen) (hT : Tabs w) :
    Calls Tryd.prog 7 #[.string a, .string b] w fun e w' => e = .returned (.bool true) ∧ Below w.heap.size w w' := by
  unfold maxLen at ha hb
  have hTs := tabs_size hT
  have HT := Lib.hid hT
  clear hT
  by_cases hl : 10000 < a.size
  · have q : decide ((10000 : Int) < (a.size : Int)) = true := by simp; omega
    go_enter Tryd.func7, Tryd.ntmps7
    go_wp2_with (go_at_call 9; go_must (refine (awake_any _ HT.out).mono ?_); rintro e w9 ⟨rfl, hb9⟩)
    go_ret
    exact ⟨rfl, hb9⟩
  have q : decide ((10000 : Int) < (a.size : Int)) = false := by simp; omega
  by_cases hl2 : 10000 < b.size
  · have q2 : decide ((10000 : Int) < (b.size : Int)) = true := by simp; omega
    go_enter Tryd.func7, Tryd.ntmps7
    go_wp2_with (go_at_call 9; go_must (refine (awake_any _ HT.out).mono ?_); rintro e w9 ⟨rfl, hb9⟩)
    go_ret
    exact ⟨rfl, hb9⟩
  have q2 : decide ((10000 : Int) < (b.size : Int)) = false := by simp; omega
  cases hA : decBad a
  case true =>
    obtain ⟨k, hk, hd1, hd2, hd3⟩ := back_dec_bad a hA
    have H1 := Lib.hid hd1
    have H2 := Lib.hid hd2
    have H3 := Lib.hid hd3
    clear hA hd1 hd2 hd3
    go_enter Tryd.func7, Tryd.ntmps7
    go_wp2_with fail
    refine (dec_as a 30 k [] H1.out H2.out H3.out (by omega) _ HT.out).mono ?_
    rintro e w1 ⟨v1, rfl, hI1, hb1⟩
    obtain ⟨a1, cap1, rfl⟩ := Ints_shape hI1
    have z1 := hb1.size
    have HT1 := Lib.hid (tabs_below HT.out (hb1.alloc z1 (.cells #[.int .i64 30, .int .i64 k] 26)) hTs.1 hTs.2)
    clear hI1
    go_wp2_with (go_at_call 9; go_must (refine (awake_any _ HT1.out).mono ?_); rintro e w9 ⟨rfl, hb9⟩)
    go_ret
    exact ⟨rfl, (hb1.alloc z1 _).trans (hb9.mono (by simp; omega))⟩
  have HA := Lib.hid (back_dec_ok a hA)
  have HP := Lib.hid (parts_ok a b hA)
  have hal := HA.out.2.2.2.2.2
  obtain ⟨m, hm⟩ : ∃ m, m = decPts a := ⟨_, rfl⟩
  rw [← hm] at hal
  have HM := Lib.hid hm.symm
  clear hA hm
  cases hB : decBad b
  case true =>
    obtain ⟨k, hk, h1, h2, h3, h4, h5⟩ := HP.out.2 hB
    have h6 := (back_dec_bad b hB)
    have h7 : decPts b = [] := by obtain ⟨_, _, _, _, h⟩ := h6; exact h
    have H1 := Lib.hid h1
    have H2 := Lib.hid h2
    have H3 := Lib.hid h3
    have H4 := Lib.hid h4
    have H5 := Lib.hid h5
    have H7 := Lib.hid h7
    clear hB h1 h2 h3 h4 h5 h6 h7
    go_enter Tryd.func7, Tryd.ntmps7
    go_wp2_with fail
    refine (dec_as a 0 0 m HA.out.1 HA.out.2.1 HM.out (by omega) _ HT.out).mono ?_
    rintro e w1 ⟨v1, rfl, hI1, hb1⟩
    obtain ⟨a1, cap1, rfl⟩ := Ints_shape hI1
    have z1 := hb1.size
    have r1 := hb1.alloc z1 (.cells #[.int .i64 0, .int .i64 0] 26)
    have HT1 := Lib.hid (tabs_below HT.out r1 hTs.1 hTs.2)
    go_wp2_with fail
    refine (dec_as b 30 k [] H1.out H2.out H7.out (by omega) _ HT1.out).mono ?_
    rintro e w2 ⟨v2, rfl, hI2, hb2⟩
    have r2 := r1.trans (hb2.mono (by simp; omega))
    have r2' := r2.alloc r2.size (.cells #[.int .i64 30, .int .i64 k] 26)
    have HT2 := Lib.hid (tabs_below HT.out r2' hTs.1 hTs.2)
    go_wp2_with fail
    refine (dec_as (a ++ b) 30 ((k : Int) + a.size) [] H3.out H4.out H5.out (by simp; omega) _ HT2.out).mono ?_
    rintro e w3 ⟨v3, rfl, hI3, hb3⟩
    obtain ⟨a3, cap3, rfl⟩ := Ints_shape hI3
    have q3 : Below (w2.heap.size + 1) (w2.alloc (.cells #[.int .i64 30, .int .i64 k] 26)) w3 := hb3.mono (by simp)
    obtain ⟨c1, c2, _, _, hz3⟩ := pair_cells q3
    have r3 := r2'.trans (hb3.mono (by have := r2.size; simp; omega))
    have r3' := r3.alloc r3.size (.cells #[.int .i64 30, .int .i64 ((k : Int) + a.size)] 26)
    have HT3 := Lib.hid (tabs_below HT.out r3' hTs.1 hTs.2)
    clear hI1 hI2 hI3 q3 hb1 hb2 hb3
    go_wp2_with (go_at_call 9; go_must (refine (awake_any _ HT3.out).mono ?_); rintro e w9 ⟨rfl, hb9⟩)
    go_ret
    exact ⟨rfl, r3'.trans (hb9.mono r3'.size)⟩
  case false =>
    have HB := Lib.hid (back_dec_ok b hB)
    have hbl := HB.out.2.2.2.2.2
    have HQ := Lib.hid (HP.out.1 hB)
    obtain ⟨n, hn⟩ : ∃ n, n = decPts b := ⟨_, rfl⟩
    rw [← hn] at hbl
    have HN := Lib.hid hn.symm
    have H3 : Hid (decPts (a ++ b) = m ++ n) := by
      show _ = _
      rw [HQ.out.2.2, HM.out, HN.out]
    clear hB hn
    obtain ⟨i0, hi, hz0, hz1, hz2⟩ := info_parts info_int
    go_enter Tryd.func7, Tryd.ntmps7
    go_wp2_with fail
    refine (dec_as a 0 0 m HA.out.1 HA.out.2.1 HM.out (by omega) _ HT.out).mono ?_
    rintro e w1 ⟨v1, rfl, hI1, hb1⟩
    obtain ⟨a1, cap1, rfl⟩ := Ints_shape hI1
    have z1 := hb1.size
    have r1 := hb1.alloc z1 (.cells #[.int .i64 0, .int .i64 0] 26)
    have HT1 := Lib.hid (tabs_below HT.out r1 hTs.1 hTs.2)
    have i1 := Ints.below hI1 ((Below.refl _ _).alloc (Nat.le_refl _) (.cells #[.int .i64 0, .int .i64 0] 26)) (Nat.le_refl _)
    go_wp2_with fail
    refine (dec_as b 0 0 n HB.out.1 HB.out.2.1 HN.out (by omega) _ HT1.out).mono ?_
    rintro e w2 ⟨v2, rfl, hI2, hb2⟩
    obtain ⟨a2, cap2, rfl⟩ := Ints_shape hI2
    have r2 := r1.trans (hb2.mono (by simp; omega))
    have r2' := r2.alloc r2.size (.cells #[.int .i64 0, .int .i64 0] 26)
    have HT2 := Lib.hid (tabs_below HT.out r2' hTs.1 hTs.2)
    have i2 := Ints.below (Ints.below i1 hb2 (Nat.le_refl _)) ((Below.refl _ _).alloc (Nat.le_refl _) (.cells #[.int .i64 0, .int .i64 0] 26)) (Nat.le_refl _)
    have j2 := Ints.below hI2 ((Below.refl _ _).alloc (Nat.le_refl _) (.cells #[.int .i64 0, .int .i64 0] 26)) (Nat.le_refl _)
    go_wp2_with fail
    refine (dec_as (a ++ b) 0 0 (m ++ n) HQ.out.1 HQ.out.2.1 H3.out (by simp; omega) _ HT2.out).mono ?_
    rintro e w3 ⟨v3, rfl, hI3, hb3⟩
    obtain ⟨a3, cap3, rfl⟩ := Ints_shape hI3
    have i3 := Ints.below i2 hb3 (Nat.le_refl _)
    have j3 := Ints.below j2 hb3 (Nat.le_refl _)
    have q3 : Below (w2.heap.size + 1) (w2.alloc (.cells #[.int .i64 0, .int .i64 0] 26)) w3 := hb3.mono (by simp)
    obtain ⟨c1, c2, _, _, hz3⟩ := pair_cells q3
    have r3 := r2'.trans (hb3.mono (by have := r2.size; simp; omega))
    clear hI1 hI2 q3 hb1 hb2 hb3 i1 i2 j2 r1 r2 r2'
    have hown0 : ((w3.alloc (.cells #[.int .i64 0, .int .i64 0] 26)).alloc (.cells #[] 3)).ownsRow (w3.heap.size + 1) 3 1 (.slice (some ⟨w3.heap.size + 1, 0, none⟩) 0 0) 0 (ints []) := by
      have := World.ownsRow_made (base := w3.heap.size + 1) (e := 3) (size := 1) (w3.alloc (.cells #[.int .i64 0, .int .i64 0] 26)) #[] 0 (by simp) (by decide) rfl
      simpa [ints] using this
    have b0 : Below (w3.heap.size + 1) (w3.alloc (.cells #[.int .i64 0, .int .i64 0] 26)) ((w3.alloc (.cells #[.int .i64 0, .int .i64 0] 26)).alloc (.cells #[] 3)) := (Below.refl _ _).alloc (by simp) _
    have i4 := Ints.below (Ints.below i3 ((Below.refl _ _).alloc (Nat.le_refl _) (.cells #[.int .i64 0, .int .i64 0] 26)) (Nat.le_refl _)) b0 (by simp)
    obtain ⟨v5, w5, hrun5, hown5, hg5⟩ := app_ints hown0 i4 (by omega) (by simp)
    have b5 := below_grown b0 hown0 hg5 (by simp)
    have z5 := b5.size
    simp at z5
    have j5 := Ints.below (Ints.below j3 ((Below.refl _ _).alloc (Nat.le_refl _) (.cells #[.int .i64 0, .int .i64 0] 26)) (Nat.le_refl _)) b5 (by simp)
    obtain ⟨v6, w6, hrun6, hown6, hg6⟩ := app_ints hown5 j5 (by omega) z5
    have b6 := below_grown b5 hown5 hg6 z5
    have k6 := Ints.below (Ints.below hI3 ((Below.refl _ _).alloc (Nat.le_refl _) (.cells #[.int .i64 0, .int .i64 0] 26)) (Nat.le_refl _)) b6 (by simp)
    have l6 : Ints w6 v6 (m ++ n) := Ints.of_owns hown6 (by simp)
    have r6 := (r3.alloc r3.size (.cells #[.int .i64 0, .int .i64 0] 26)).trans (b6.mono (by have := r3.size; omega))
    have K6 : Hid (Ints w6 (.slice a3 (m.length + n.length) cap3) (m ++ n)) := by
      show Ints _ _ _
      rw [← List.length_append]; exact k6
    have L6 := Lib.hid l6
    clear i3 j3 hI3 hown0 b0 i4 hown5 hg5 b5 j5 hown6 hg6 b6 k6 l6
    go_wp2_with (at_builtin; go_must (first | (refine wpList_append_run rfl _ _ 23 rfl _ _ rfl rfl hrun5 ?_) | (refine wpList_append_run rfl _ _ 23 rfl _ _ rfl rfl hrun6 ?_)))
    refine (same_t _ _ (m ++ n) (m ++ n) _ rfl K6.out L6.out).mono ?_
    rintro e w7 ⟨rfl, hb7⟩
    have r7 := r6.trans (hb7.mono r6.size)
    have HT7 := Lib.hid (tabs_below HT.out r7 hTs.1 hTs.2)
    go_wp2_with (go_at_call 9; go_must (refine (awake_any _ HT7.out).mono ?_); rintro e w9 ⟨rfl, hb9⟩)
    go_ret
    exact ⟨rfl, r7.trans (hb9.mono r7.size)⟩
end Go.Proofs.YthhpinohbjmhcaaDoor
