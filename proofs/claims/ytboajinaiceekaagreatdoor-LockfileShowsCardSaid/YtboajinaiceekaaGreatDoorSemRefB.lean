/- The reference of layer 4: Parse: a walk. -/
import Derived.Test.YtboajinaiceekaaGreatDoorSemRefA
import Derived.Test.YtboajinaiceekaaGreatDoorSemMath
namespace Go.Proofs.YtboajinaiceekaaGreatDoor
open Go.RowKit
def PRel (s : ByteArray) (w : World) (k i : Value) (wr : World) : Prop :=
  ∃ n m : Nat, n ≤ s.size ∧ i = .int .i64 (n : Int) ∧ k = .int .i64 (m : Int) ∧ m ≤ 2 ∧ (Sem4.dots (s.data.toList.take n)).length = m + 1 ∧ (s.data.toList.take n).all digOrDot = true ∧
    (∀ j, j < 3 → wr.cell? ⟨w.heap.size + 1, j, none⟩ = some (.int .i64 (numAt (s.data.toList.take n) j : Int))) ∧ (∀ j, j < 3 → wr.frozen? ⟨w.heap.size + 1, j, none⟩ = false) ∧
    Below (w.heap.size + 1) (w.alloc (.cells #[.int .i64 0, .int .i64 0, .int .i64 0, .string ⟨#[]⟩] 45)) wr ∧ w.heap.size + 1 < wr.heap.size
set_option maxRecDepth 100000 in
set_option maxHeartbeats 1000000 in
theorem refParse_any (s : ByteArray) (w : World) (hs : s.size ≤ 9223372036854775807) :
    Calls Tryz.prog 35 #[.string s] w (ParseAs s.data.toList w) := by
  by_cases hl : 60 < s.size
  · have q : decide ((60 : Int) < (s.size : Int)) = true := by simp; omega
    have HP := Lib.hid (parse_long (l := s.data.toList) (by rw [← Lib.size_eq]; exact hl))
    go_enter Tryz.func35, Tryz.ntmps35
    go_wp2_with fail
    exact bodyPost_ret (v := .tuple #[.agg #[.int .i64 0, .int .i64 0, .int .i64 0, .string ⟨#[]⟩], .int .i64 40]) (by simp [results, Tryz.results35, go_sem]) rfl ⟨0, 0, 0, [], 40, rfl, HP.out, (Below.refl _ _).alloc (Nat.le_refl _) _⟩
  have q : decide ((60 : Int) < (s.size : Int)) = false := by simp; omega
  have hs2 : s.size ≤ 60 := by omega
  clear hl hs
  go_enter Tryz.func35, Tryz.ntmps35
  go_wp2_with fail
  go_loopw [5, 6] (fun k i wr => PRel s w k i wr) (fun _ i _ => s.size - (intOf i).toNat)
  case atStart =>
    refine ⟨0, 0, Nat.zero_le _, rfl, rfl, by omega, rfl, rfl, ?_, ?_, (Below.refl _ _).alloc (by simp) _, by simp⟩
    · intro j hj
      rw [List.take_zero, numAt_nil]
      rcases (show j = 0 ∨ j = 1 ∨ j = 2 by omega) with rfl | rfl | rfl <;> go_simp <;> rfl
    · intro j hj
      rcases (show j = 0 ∨ j = 1 ∨ j = 2 by omega) with rfl | rfl | rfl <;> go_simp
  case round =>
    obtain ⟨n, m, hn, rfl, rfl, hm, hd, hall, hc, hf, hb, hz⟩ := hrel
    have HD := Lib.hid hd
    have HA := Lib.hid hall
    have HC := Lib.hid hc
    have HF := Lib.hid hf
    have HLn := Lib.hid (Lib.size_eq s)
    have hbw := below_first hb
    have c0 := box_cells hb 0
    have c1 := box_cells hb 1
    have c2 := box_cells hb 2
    have c3 := box_cells hb 3
    have f0 := box_free hb 0
    have f1 := box_free hb 1
    have f2 := box_free hb 2
    have f3 := box_free hb 3
    simp at c0 c1 c2 c3
    clear hd hall hc hf
    by_cases hlt : n < s.size
    · have HT := Lib.hid (take_byte s n hlt)
      obtain ⟨x, hx⟩ : ∃ x, s[n] = x := ⟨_, rfl⟩
      rw [hx] at HT
      have HX : Hid (∃ h : n < s.data.toList.length, s.data.toList[n] = x) := ⟨by rw [← HLn.out]; exact hlt, hx⟩
      have j1 : (n : Int) < (s.size : Int) := by omega
      by_cases h45 : x.toNat = 45
      · have HPd : Hid ((s.extract (n + 1) s.size).data.toList = s.data.toList.drop (n + 1)) := Lib.extract_to_end s (n + 1)
        have HCo : Hid (coreOf s.data.toList = s.data.toList.take n ∧ preOf s.data.toList = s.data.toList.drop (n + 1)) := by
          obtain ⟨hl, he⟩ := HX.out
          exact parse_core HA.out (.inr ⟨hl, by rw [he]; exact UInt8.toNat_inj.1 h45⟩)
        have q45 : ((x.toNat : Int) != 45) = false := by simp; omega
        have hsx : (s.extract (n + 1) s.size).size ≤ 60 := by
          rw [Lib.size_eq, HPd.out, List.length_drop, ← HLn.out]; omega
        clear h45
        obtain ⟨N0, h0⟩ : ∃ N, numAt (s.data.toList.take n) 0 = N := ⟨_, rfl⟩
        obtain ⟨N1, h1⟩ : ∃ N, numAt (s.data.toList.take n) 1 = N := ⟨_, rfl⟩
        obtain ⟨N2, h2⟩ : ∃ N, numAt (s.data.toList.take n) 2 = N := ⟨_, rfl⟩
        have e0 := HC.out 0 (by omega)
        have e1 := HC.out 1 (by omega)
        have e2 := HC.out 2 (by omega)
        rw [h0] at e0
        rw [h1] at e1
        rw [h2] at e2
        have H0 := Lib.hid h0
        have H1 := Lib.hid h1
        have H2 := Lib.hid h2
        clear h0 h1 h2
        go_wp2_with fail
        go_region
        go_wp2_with fail
        cases hok : verOk N0 N1 N2 (s.data.toList.drop (n + 1))
        · have HP : Hid (ParseIs s.data.toList 0 0 0 [] 40) := by
            refine parse_no_end HCo.out.1 ?_
            rw [H0.out, H1.out, H2.out, HCo.out.2]
            rintro ⟨h, _⟩
            rw [hok] at h; cases h
          refine (refShow_no N0 N1 N2 (s.extract (n + 1) s.size) _ (by omega) (by unfold verErr; rw [if_neg]; show ¬ verOk N0 N1 N2 (s.extract (n + 1) s.size).data.toList = true; rw [HPd.out, hok]; decide)).mono ?_
          rintro e w3 ⟨rfl, hb3⟩
          have hb4 := ((hb.alloc (by omega) (.cells #[.int .i64 (N0 : Int), .int .i64 (N1 : Int), .int .i64 (N2 : Int), .string (s.extract (n + 1) s.size)] 45)).drew).trans (hb3.mono (by simp; omega))
          have d0 := box_cells hb4 0
          have d1 := box_cells hb4 1
          have d2 := box_cells hb4 2
          have d3 := box_cells hb4 3
          have g0 := box_free hb4 0
          have g1 := box_free hb4 1
          have g2 := box_free hb4 2
          have g3 := box_free hb4 3
          simp at d0 d1 d2 d3
          have hbw4 := below_first hb4
          clear hb3 hb4 hok
          go_wp2_with fail
          exact bodyPost_ret (v := .tuple #[.agg #[.int .i64 0, .int .i64 0, .int .i64 0, .string ⟨#[]⟩], .int .i64 40]) (by simp [results, Tryz.results35, go_sem, d0, d1, d2, d3]) rfl ⟨0, 0, 0, [], 40, rfl, HP.out, ((((hbw4.setCell (Nat.le_refl _) _).setCell (Nat.le_refl _) _).setCell (Nat.le_refl _) _).setCell (Nat.le_refl _) _)⟩
        · have bd := verOk_bounds hok
          refine (refShow_yes N0 N1 N2 (s.extract (n + 1) s.size) _ (by rw [Lib.size_eq, HPd.out]; exact bd.2.2.2.2.2.2.1) (by omega) (by omega) (by omega) (by unfold verErr; rw [if_pos]; show verOk N0 N1 N2 (s.extract (n + 1) s.size).data.toList = true; rw [HPd.out, hok])).mono ?_
          rintro e w3 ⟨rfl, hb3⟩
          have hb4 := ((hb.alloc (by omega) (.cells #[.int .i64 (N0 : Int), .int .i64 (N1 : Int), .int .i64 (N2 : Int), .string (s.extract (n + 1) s.size)] 45)).drew).trans (hb3.mono (by simp; omega))
          have d0 := box_cells hb4 0
          have d1 := box_cells hb4 1
          have d2 := box_cells hb4 2
          have d3 := box_cells hb4 3
          have g0 := box_free hb4 0
          have g1 := box_free hb4 1
          have g2 := box_free hb4 2
          have g3 := box_free hb4 3
          have hb5 := ((Below.refl (wr.heap.size + 1) (wr.alloc (.cells #[.int .i64 (N0 : Int), .int .i64 (N1 : Int), .int .i64 (N2 : Int), .string (s.extract (n + 1) s.size)] 45))).drew).trans (hb3.mono (by simp))
          have v0 := box_cells hb5 0
          have v1 := box_cells hb5 1
          have v2 := box_cells hb5 2
          have v3 := box_cells hb5 3
          simp at d0 d1 d2 d3 v0 v1 v2 v3
          have hbw4 := below_first hb4
          have hne : wr.heap.size ≠ w.heap.size := by omega
          obtain ⟨T, hT⟩ : ∃ T, T = S (showL N0 N1 N2 (s.extract (n + 1) s.size).data.toList) := ⟨_, rfl⟩
          rw [← hT]
          by_cases hts : T.toList = s.toList
          · have HP : Hid (ParseIs s.data.toList N0 N1 N2 (s.data.toList.drop (n + 1)) 0) := by
              refine parse_yes ⟨hok, ?_⟩
              rw [Lib.toList_data, Lib.toList_data, hT, HPd.out, S_data] at hts
              simpa using hts
            have t1 : (T.toList == s.toList) = true := by simpa using hts
            have t2 : (T.toList != s.toList) = false := by simpa using hts
            clear hb3 hb4 hb5 hok bd hts hT
            go_wp2_with fail
            exact bodyPost_ret (v := .tuple #[.agg #[.int .i64 (N0 : Int), .int .i64 (N1 : Int), .int .i64 (N2 : Int), .string (s.extract (n + 1) s.size)], .int .i64 0]) (by simp [results, Tryz.results35, go_sem, d0, d1, d2, d3]) rfl ⟨N0, N1, N2, s.data.toList.drop (n + 1), 0, by rw [← HPd.out]; rfl, HP.out, ((((hbw4.setCell (Nat.le_refl _) _).setCell (Nat.le_refl _) _).setCell (Nat.le_refl _) _).setCell (Nat.le_refl _) _)⟩
          · have HP : Hid (ParseIs s.data.toList 0 0 0 [] 40) := by
              refine parse_no_end HCo.out.1 ?_
              rw [H0.out, H1.out, H2.out, HCo.out.2]
              rintro ⟨_, h⟩
              apply hts
              rw [Lib.toList_data, Lib.toList_data, hT, HPd.out, S_data]
              simpa using h
            have t1 : (T.toList == s.toList) = false := by simpa using hts
            have t2 : (T.toList != s.toList) = true := by simpa using hts
            clear hb3 hb4 hb5 hok bd hts hT
            go_wp2_with fail
            exact bodyPost_ret (v := .tuple #[.agg #[.int .i64 0, .int .i64 0, .int .i64 0, .string ⟨#[]⟩], .int .i64 40]) (by simp [results, Tryz.results35, go_sem, d0, d1, d2, d3]) rfl ⟨0, 0, 0, [], 40, rfl, HP.out, ((((hbw4.setCell (Nat.le_refl _) _).setCell (Nat.le_refl _) _).setCell (Nat.le_refl _) _).setCell (Nat.le_refl _) _)⟩
      have q45 : ((x.toNat : Int) != 45) = true := by simp; omega
      by_cases h46 : x.toNat = 46
      · have q46 : ((x.toNat : Int) == 46) = true := by simp; omega
        have q46' : ((x.toNat : Int) != 46) = false := by simp; omega
        have hx46 : x = 46 := UInt8.toNat_inj.1 h46
        have HD1 : Hid ((Sem4.dots (s.data.toList.take (n + 1))).length = m + 2) := by
          show _ = _
          rw [HT.out, hx46, Sem4.dots_snoc, Sem4.dotSnoc, if_pos rfl, List.length_append, HD.out]; rfl
        have HA1 : Hid ((s.data.toList.take (n + 1)).all digOrDot = true) := by
          show _ = _
          rw [HT.out, hx46, List.all_append, HA.out]; rfl
        by_cases h2 : m = 2
        · have q2 : decide ((2 : Int) < (m : Int) + 1) = true := by simp; omega
          have HP := Lib.hid (parse_no (parse_many HA1.out (by rw [HD1.out]; omega)))
          clear h45 h46 hx46 h2
          go_wp2_with fail
          exact bodyPost_ret (v := .tuple #[.agg #[.int .i64 0, .int .i64 0, .int .i64 0, .string ⟨#[]⟩], .int .i64 40]) (by simp [results, Tryz.results35, go_sem, c0, c1, c2, c3]) rfl ⟨0, 0, 0, [], 40, rfl, HP.out, ((((hbw.setCell (Nat.le_refl _) _).setCell (Nat.le_refl _) _).setCell (Nat.le_refl _) _).setCell (Nat.le_refl _) _)⟩
        · have q2 : decide ((2 : Int) < (m : Int) + 1) = false := by simp; omega
          have hm1 : m + 1 ≤ 2 := by omega
          clear h45 h46 h2
          go_wp2_with fail
          go_roundw
          case rel =>
            refine ⟨n + 1, m + 1, by omega, by go_num, by go_num, hm1, HD1.out, HA1.out, ?_, HF.out, hb, hz⟩
            intro j hj
            rw [HC.out j hj, HT.out, hx46, numAt_dot]
          case measure => simp [intOf]; omega
      have q46 : ((x.toNat : Int) == 46) = false := by simp; omega
      have q46' : ((x.toNat : Int) != 46) = true := by simp; omega
      cases hdig : Sem4.isDig x
      · have HP : Hid (ParseIs s.data.toList 0 0 0 [] 40) := by
          obtain ⟨hl, he⟩ := HX.out
          refine parse_no (parse_bad hl HA.out ?_ ?_)
          · rw [he]; rintro rfl; exact h45 rfl
          · rw [he]; unfold digOrDot; rw [hdig]; simp; rintro rfl; exact h46 rfl
        have hd2 : x.toNat < 48 ∨ 57 < x.toNat := by
          have : ¬ (48 ≤ x.toNat ∧ x.toNat ≤ 57) := by
            intro h; simp [Sem4.isDig] at hdig; omega
          omega
        clear hdig h45 h46
        by_cases h48 : x.toNat < 48
        · have q1 : decide ((x.toNat : Int) < 48) = true := by simp; omega
          clear hd2 h48
          go_wp2_with fail
          exact bodyPost_ret (v := .tuple #[.agg #[.int .i64 0, .int .i64 0, .int .i64 0, .string ⟨#[]⟩], .int .i64 40]) (by simp [results, Tryz.results35, go_sem, c0, c1, c2, c3]) rfl ⟨0, 0, 0, [], 40, rfl, HP.out, ((((hbw.setCell (Nat.le_refl _) _).setCell (Nat.le_refl _) _).setCell (Nat.le_refl _) _).setCell (Nat.le_refl _) _)⟩
        · have q1 : decide ((x.toNat : Int) < 48) = false := by simp; omega
          have q1' : decide ((57 : Int) < (x.toNat : Int)) = true := by simp; omega
          clear hd2 h48
          go_wp2_with fail
          exact bodyPost_ret (v := .tuple #[.agg #[.int .i64 0, .int .i64 0, .int .i64 0, .string ⟨#[]⟩], .int .i64 40]) (by simp [results, Tryz.results35, go_sem, c0, c1, c2, c3]) rfl ⟨0, 0, 0, [], 40, rfl, HP.out, ((((hbw.setCell (Nat.le_refl _) _).setCell (Nat.le_refl _) _).setCell (Nat.le_refl _) _).setCell (Nat.le_refl _) _)⟩
      have hd2 : 48 ≤ x.toNat ∧ x.toNat ≤ 57 := by simpa [Sem4.isDig] using hdig
      obtain ⟨hd3, hd4⟩ := hd2
      have q1 : decide ((x.toNat : Int) < 48) = false := by simp; omega
      have q1' : decide ((57 : Int) < (x.toNat : Int)) = false := by simp; omega
      have q2 : decide ((2 : Int) < (m : Int)) = false := by simp; omega
      have hx46 : x ≠ 46 := by rintro rfl; exact h46 rfl
      have HD1 : Hid ((Sem4.dots (s.data.toList.take (n + 1))).length = m + 1) := by
        show _ = _
        have h := HD.out
        rw [HT.out, Sem4.dots_snoc, Sem4.dotSnoc, if_neg hx46, List.length_append, List.length_dropLast, h]; rfl
      have HA1 : Hid ((s.data.toList.take (n + 1)).all digOrDot = true) := by
        show _ = _
        rw [HT.out, List.all_append, HA.out]; simp [digOrDot, hdig]
      obtain ⟨N, hN⟩ : ∃ N, numAt (s.data.toList.take n) m = N := ⟨_, rfl⟩
      have hcm := HC.out m (by omega)
      have hfm := HF.out m (by omega)
      have HNl : N ≤ 9999999 := by rw [← hN]; exact numAt_le HA.out m
      rw [hN] at hcm
      have HN := Lib.hid hN
      have HNum : Hid (∀ j, numAt (s.data.toList.take (n + 1)) j = if j = m then dstep N x else numAt (s.data.toList.take n) j) := by
        intro j
        rw [HT.out, numAt_dig _ _ hx46 m HD.out, HN.out]
      have m1 : (0 : Int) ≤ (m : Int) := by omega
      have m2 : (m : Int) < 3 := by omega
      clear hN hx46 hdig h45 h46
      by_cases hbig : N ≤ 999999
      · have q3 : decide ((N : Int) ≤ 999999) = true := by simp; omega
        have HS : Hid (dstep N x = 10 * N + (x.toNat - 48)) := by show _ = _; unfold dstep; rw [if_pos hbig]
        go_wp2_with fail
        go_region
        go_wp2_with fail
        go_roundw
        case rel =>
          refine ⟨n + 1, m, by omega, by go_num, rfl, by omega, HD1.out, HA1.out, ?_, ?_, ?_, by simpa using hz⟩
          · intro j hj
            rw [HNum.out j, HS.out]
            by_cases hjm : j = m
            · subst hjm
              rw [if_pos rfl]
              show (wr.setCell _ _).cell? _ = _
              rw [World.cell?_setCell_same _ _ _ hcm]
              congr 2; omega
            · rw [if_neg hjm]
              show (wr.setCell _ _).cell? _ = _
              rw [World.cell?_setCell_other _ _ _ _ (by intro e; injection e with _ e2; exact hjm e2.symm)]
              exact HC.out j hj
          · intro j hj
            have := HF.out j hj
            go_simp
          · exact (hb.setCell (by simp) _).drew
        case measure => simp [intOf]; omega
      · have q3 : decide ((N : Int) ≤ 999999) = false := by simp; omega
        have HS : Hid (dstep N x = N) := by show _ = _; unfold dstep; rw [if_neg hbig]
        clear hbig
        go_wp2_with fail
        go_roundw
        case rel =>
          refine ⟨n + 1, m, by omega, by go_num, rfl, by omega, HD1.out, HA1.out, ?_, HF.out, hb, hz⟩
          intro j hj
          rw [HC.out j hj, HNum.out j, HS.out, ← HN.out]
          split <;> simp_all
        case measure => simp [intOf]; omega
    · obtain rfl : n = s.size := by omega
      have HCo : Hid (coreOf s.data.toList = s.data.toList.take s.size ∧ preOf s.data.toList = []) := by
        have h := parse_core HA.out (.inl HLn.out)
        refine ⟨h.1, ?_⟩
        rw [h.2, List.drop_eq_nil_of_le (by rw [← HLn.out]; omega)]
      obtain ⟨N0, h0⟩ : ∃ N, numAt (s.data.toList.take s.size) 0 = N := ⟨_, rfl⟩
      obtain ⟨N1, h1⟩ : ∃ N, numAt (s.data.toList.take s.size) 1 = N := ⟨_, rfl⟩
      obtain ⟨N2, h2⟩ : ∃ N, numAt (s.data.toList.take s.size) 2 = N := ⟨_, rfl⟩
      have e0 := HC.out 0 (by omega)
      have e1 := HC.out 1 (by omega)
      have e2 := HC.out 2 (by omega)
      rw [h0] at e0
      rw [h1] at e1
      rw [h2] at e2
      have H0 := Lib.hid h0
      have H1 := Lib.hid h1
      have H2 := Lib.hid h2
      clear h0 h1 h2
      go_wp2_with fail
      go_region
      go_wp2_with fail
      cases hok : verOk N0 N1 N2 ([])
      · have HP : Hid (ParseIs s.data.toList 0 0 0 [] 40) := by
          refine parse_no_end HCo.out.1 ?_
          rw [H0.out, H1.out, H2.out, HCo.out.2]
          rintro ⟨h, _⟩
          rw [hok] at h; cases h
        refine (refShow_no N0 N1 N2 ⟨#[]⟩ _ (by decide) (by unfold verErr; rw [if_neg]; show ¬ verOk N0 N1 N2 (⟨#[]⟩ : ByteArray).data.toList = true; rw [show (⟨#[]⟩ : ByteArray).data.toList = [] from rfl, hok]; decide)).mono ?_
        rintro e w3 ⟨rfl, hb3⟩
        have hb4 := ((hb.alloc (by omega) (.cells #[.int .i64 (N0 : Int), .int .i64 (N1 : Int), .int .i64 (N2 : Int), .string ⟨#[]⟩] 45)).drew).trans (hb3.mono (by simp; omega))
        have d0 := box_cells hb4 0
        have d1 := box_cells hb4 1
        have d2 := box_cells hb4 2
        have d3 := box_cells hb4 3
        have g0 := box_free hb4 0
        have g1 := box_free hb4 1
        have g2 := box_free hb4 2
        have g3 := box_free hb4 3
        simp at d0 d1 d2 d3
        have hbw4 := below_first hb4
        clear hb3 hb4 hok
        go_wp2_with fail
        exact bodyPost_ret (v := .tuple #[.agg #[.int .i64 0, .int .i64 0, .int .i64 0, .string ⟨#[]⟩], .int .i64 40]) (by simp [results, Tryz.results35, go_sem, d0, d1, d2, d3]) rfl ⟨0, 0, 0, [], 40, rfl, HP.out, ((((hbw4.setCell (Nat.le_refl _) _).setCell (Nat.le_refl _) _).setCell (Nat.le_refl _) _).setCell (Nat.le_refl _) _)⟩
      · have bd := verOk_bounds hok
        refine (refShow_yes N0 N1 N2 ⟨#[]⟩ _ (by rw [Lib.size_eq, show (⟨#[]⟩ : ByteArray).data.toList = [] from rfl]; exact bd.2.2.2.2.2.2.1) (by omega) (by omega) (by omega) (by unfold verErr; rw [if_pos]; show verOk N0 N1 N2 (⟨#[]⟩ : ByteArray).data.toList = true; rw [show (⟨#[]⟩ : ByteArray).data.toList = [] from rfl, hok])).mono ?_
        rintro e w3 ⟨rfl, hb3⟩
        have hb4 := ((hb.alloc (by omega) (.cells #[.int .i64 (N0 : Int), .int .i64 (N1 : Int), .int .i64 (N2 : Int), .string ⟨#[]⟩] 45)).drew).trans (hb3.mono (by simp; omega))
        have d0 := box_cells hb4 0
        have d1 := box_cells hb4 1
        have d2 := box_cells hb4 2
        have d3 := box_cells hb4 3
        have g0 := box_free hb4 0
        have g1 := box_free hb4 1
        have g2 := box_free hb4 2
        have g3 := box_free hb4 3
        have hb5 := ((Below.refl (wr.heap.size + 1) (wr.alloc (.cells #[.int .i64 (N0 : Int), .int .i64 (N1 : Int), .int .i64 (N2 : Int), .string ⟨#[]⟩] 45))).drew).trans (hb3.mono (by simp))
        have v0 := box_cells hb5 0
        have v1 := box_cells hb5 1
        have v2 := box_cells hb5 2
        have v3 := box_cells hb5 3
        simp at d0 d1 d2 d3 v0 v1 v2 v3
        have hbw4 := below_first hb4
        have hne : wr.heap.size ≠ w.heap.size := by omega
        obtain ⟨T, hT⟩ : ∃ T, T = S (showL N0 N1 N2 (⟨#[]⟩ : ByteArray).data.toList) := ⟨_, rfl⟩
        rw [← hT]
        by_cases hts : T.toList = s.toList
        · have HP : Hid (ParseIs s.data.toList N0 N1 N2 ([]) 0) := by
            refine parse_yes ⟨hok, ?_⟩
            rw [Lib.toList_data, Lib.toList_data, hT, show (⟨#[]⟩ : ByteArray).data.toList = [] from rfl, S_data] at hts
            simpa using hts
          have t1 : (T.toList == s.toList) = true := by simpa using hts
          have t2 : (T.toList != s.toList) = false := by simpa using hts
          clear hb3 hb4 hb5 hok bd hts hT
          go_wp2_with fail
          exact bodyPost_ret (v := .tuple #[.agg #[.int .i64 (N0 : Int), .int .i64 (N1 : Int), .int .i64 (N2 : Int), .string ⟨#[]⟩], .int .i64 0]) (by simp [results, Tryz.results35, go_sem, d0, d1, d2, d3]) rfl ⟨N0, N1, N2, [], 0, by rw [← show (⟨#[]⟩ : ByteArray).data.toList = [] from rfl]; rfl, HP.out, ((((hbw4.setCell (Nat.le_refl _) _).setCell (Nat.le_refl _) _).setCell (Nat.le_refl _) _).setCell (Nat.le_refl _) _)⟩
        · have HP : Hid (ParseIs s.data.toList 0 0 0 [] 40) := by
            refine parse_no_end HCo.out.1 ?_
            rw [H0.out, H1.out, H2.out, HCo.out.2]
            rintro ⟨_, h⟩
            apply hts
            rw [Lib.toList_data, Lib.toList_data, hT, show (⟨#[]⟩ : ByteArray).data.toList = [] from rfl, S_data]
            simpa using h
          have t1 : (T.toList == s.toList) = false := by simpa using hts
          have t2 : (T.toList != s.toList) = true := by simpa using hts
          clear hb3 hb4 hb5 hok bd hts hT
          go_wp2_with fail
          exact bodyPost_ret (v := .tuple #[.agg #[.int .i64 0, .int .i64 0, .int .i64 0, .string ⟨#[]⟩], .int .i64 40]) (by simp [results, Tryz.results35, go_sem, d0, d1, d2, d3]) rfl ⟨0, 0, 0, [], 40, rfl, HP.out, ((((hbw4.setCell (Nat.le_refl _) _).setCell (Nat.le_refl _) _).setCell (Nat.le_refl _) _).setCell (Nat.le_refl _) _)⟩
end Go.Proofs.YtboajinaiceekaaGreatDoor
