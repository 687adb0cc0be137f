/- The program's versions: Parse: a walk. -/
import Derived.Test.YtboajinaiceekaaGreatDoorSemProg2
import Derived.Test.YtboajinaiceekaaGreatDoorCells
namespace Go.Proofs.YtboajinaiceekaaGreatDoor
open Go.RowKit
def PRelP (ls : List (List UInt8)) (w w3 : World) (B8 : Nat) (i : Value) (wr : World) : Prop :=
  ∃ k : Nat, k ≤ 3 ∧ i = .int .i64 (k : Int) ∧ (∀ j, j < k → okNum (ls.getD j []) = true) ∧
    (∀ j, j < 3 → wr.cell? ⟨B8, j, none⟩ = some (.int .i64 ((if j < k then dfold (ls.getD j []) else 0 : Nat) : Int))) ∧ (∀ j, j < 3 → wr.frozen? ⟨B8, j, none⟩ = false) ∧
    Below (w.heap.size + 1) (w.alloc (.cells #[.int .i64 0, .int .i64 0, .int .i64 0, .string ⟨#[]⟩] 45)) wr ∧ Below w3.heap.size w3 wr ∧ B8 < wr.heap.size
theorem checkP_as (a b c : Int) (p : ByteArray) (r : Int) (h : verErr a b c p.data.toList = r) (w : World) (hE : Env w) (hs : p.size ≤ 9223372036854775807) :
    Calls Tryz.prog 46 #[.agg #[.int .i64 a, .int .i64 b, .int .i64 c, .string p]] w fun e w' => e = .returned (.int .i64 r) ∧ Below w.heap.size w w' := by
  subst h; exact check_any a b c p w hE hs
theorem atoi_t (t : ByteArray) (x : List UInt8) (N : Nat) (hx : t.data.toList = x) (h : x.all Sem4.isDig = true) (hn : x ≠ []) (hl : t.size ≤ 6) (hN : dfold x = N) (w : World) :
    Calls Tryz.prog 61 #[.string t] w fun e w' => e = .returned (.tuple #[.int .i64 (N : Int), .nilIface]) ∧ Below w.heap.size w w' := by
  subst hx hN
  exact atoi_any t.data.toList h hn (by rw [← Lib.size_eq]; exact hl) w
set_option maxRecDepth 100000 in
set_option maxHeartbeats 4000000 in
theorem parse_any (s : ByteArray) (w : World) (hE : Env w) (hs : s.size < 4294967281) :
    Calls Tryz.prog 34 #[.string s] w (ParseAs s.data.toList w) := by
  have HEnv := Lib.hid hE
  clear hE
  have hW := (Below.refl w.heap.size w).alloc (Nat.le_refl _) (.cells #[.int .i64 0, .int .i64 0, .int .i64 0, .string ⟨#[]⟩] 45)
  obtain ⟨l, hl⟩ : ∃ l, s.data.toList = l := ⟨_, rfl⟩
  have HL := Lib.hid hl
  rw [hl]
  have hlen : l.length < 4294967281 := by rw [← hl, ← Lib.size_eq]; exact hs
  have hcl : (coreOf l).length ≤ l.length := (List.takeWhile_sublist _).length_le
  have hpl : (preOf l).length ≤ l.length := by
    unfold preOf; rw [List.length_drop]
    have := (List.dropWhile_sublist (p := notDash) (l := l)).length_le
    omega
  clear hl
  go_enter Tryz.func34, Tryz.ntmps34
  go_wp2_with fail
  refine (cut_any s _ (HEnv.out.below hW) hs).mono ?_
  rintro e w1 ⟨rfl, hb1⟩
  rw [HL.out]
  have hb1' : Below (w.heap.size + 1) (w.alloc (.cells #[.int .i64 0, .int .i64 0, .int .i64 0, .string ⟨#[]⟩] 45)) w1 := hb1.mono (by simp)
  have hW1 := below_then hW hb1
  obtain ⟨ls, hls⟩ : ∃ ls, Sem4.dots (coreOf l) = ls := ⟨_, rfl⟩
  have HLS := Lib.hid hls
  have HSC : Hid ((S (coreOf l)).data.toList = coreOf l) := rfl
  have HSP : Hid ((S (preOf l)).data.toList = preOf l) := rfl
  obtain ⟨C, hC⟩ : ∃ C, S (coreOf l) = C := ⟨_, rfl⟩
  obtain ⟨P, hP⟩ : ∃ P, S (preOf l) = P := ⟨_, rfl⟩
  obtain ⟨more, hM⟩ : ∃ more, (l.any fun c => !notDash c) = more := ⟨_, rfl⟩
  have hCs : C.size < 4294967281 := by rw [← hC, S_size]; omega
  have hPs : P.size < 4294967281 := by rw [← hP, S_size]; omega
  have hPe : P.toList.isEmpty = (preOf l).isEmpty := by rw [← hP, Lib.toList_data]; rfl
  rw [hC] at HSC
  rw [hP] at HSP
  rw [hC, hP, hM]
  have HPe := Lib.hid hPe
  have HM := Lib.hid hM
  clear hls hC hP hM hPe
  go_wp2_with fail
  refine (split_any C _ (HEnv.out.below hW1) hCs).mono ?_
  rintro e w2 ⟨v, rfl, hv, hb2⟩
  have hb2' := box_then hb1' hb2
  have hW2 := below_then hW1 hb2
  rw [HSC.out, HLS.out] at hv
  have hne : 0 < ls.length := by rw [← HLS.out]; exact List.length_pos_iff.2 (Sem4.dots_ne _)
  obtain ⟨bx, ox, capx, rfl, hbx, hcx⟩ := hv.full hne
  have HCX := Lib.hid hcx
  have c0 := box_cells hb2' 0
  have c1 := box_cells hb2' 1
  have c2 := box_cells hb2' 2
  have c3 := box_cells hb2' 3
  have f0 := box_free hb2' 0
  have f1 := box_free hb2' 1
  have f2 := box_free hb2' 2
  have f3 := box_free hb2' 3
  simp at c0 c1 c2 c3
  have hB0 : w.heap.size < w2.heap.size := cell_lt c0
  clear hv hcx hb1 hb2
  by_cases h3 : ls.length = 3
  case neg =>
    have HP := Lib.hid (parse_no3 (l := l) (by rw [HLS.out]; exact h3))
    have q : ((ls.length : Int) != 3) = true := by simp; omega
    clear h3
    go_wp2_with fail
    exact bodyPost_ret (v := .tuple #[.agg #[.int .i64 0, .int .i64 0, .int .i64 0, .string ⟨#[]⟩], .int .i64 40]) (by simp [results, Tryz.results34, go_sem, c0, c1, c2, c3]) rfl ⟨0, 0, 0, [], 40, rfl, HP.out, ((((hW2.setCell (Nat.le_refl _) _).setCell (Nat.le_refl _) _).setCell (Nat.le_refl _) _).setCell (Nat.le_refl _) _)⟩
  have q : ((ls.length : Int) != 3) = false := by simp; omega
  have H3 := Lib.hid h3
  have h31 : ls.length ≤ 3 := by omega
  have h32 : 3 ≤ ls.length := by omega
  clear h3
  cases hmp : (more && P.toList.isEmpty)
  case true =>
    have hm1 : more = true := by revert hmp; cases more <;> simp
    have hm2 : P.toList.isEmpty = true := by revert hmp; cases more <;> simp
    have HP := Lib.hid (parse_noPre (l := l) (by rw [HM.out, ← HPe.out]; exact hmp))
    clear hmp
    subst hm1
    go_wp2_with fail
    exact bodyPost_ret (v := .tuple #[.agg #[.int .i64 0, .int .i64 0, .int .i64 0, .string ⟨#[]⟩], .int .i64 40]) (by simp [results, Tryz.results34, go_sem, c0, c1, c2, c3]) rfl ⟨0, 0, 0, [], 40, rfl, HP.out, ((((hW2.setCell (Nat.le_refl _) _).setCell (Nat.le_refl _) _).setCell (Nat.le_refl _) _).setCell (Nat.le_refl _) _)⟩
  have HMP : Hid ((l.any (fun c => !notDash c) && (preOf l).isEmpty) = false) := by
    show _ = _
    rw [HM.out, ← HPe.out]; exact hmp
  have hmp' : more = false ∨ (more = true ∧ P.toList.isEmpty = false) := by
    cases more
    · exact .inl rfl
    · exact .inr ⟨rfl, by simpa using hmp⟩
  clear hmp
  rcases hmp' with hmm | ⟨hmm, hpe⟩
  all_goals
    subst hmm
    have HE2 := Lib.hid (HEnv.out.below hW2)
    go_wp2_with fail
    go_loopw [9, 10, 34] (fun _ _ i wr => PRelP ls w w2 w2.heap.size i wr) (fun _ _ i _ => 3 - (intOf i).toNat)
    case atStart =>
      refine ⟨0, by omega, rfl, fun j hj => absurd hj (by omega), fun j hj => ?_, fun j hj => ?_, box_then hb2' ((Below.refl _ _).alloc (Nat.le_refl _) _), (Below.refl _ _).alloc (Nat.le_refl _) _, by simp⟩
      · rw [if_neg (by omega)]
        rcases (show j = 0 ∨ j = 1 ∨ j = 2 by omega) with rfl | rfl | rfl <;> go_simp <;> rfl
      · rcases (show j = 0 ∨ j = 1 ∨ j = 2 by omega) with rfl | rfl | rfl <;> go_simp
    case round =>
      obtain ⟨k, hk, rfl, hok, hcs, hfs, hbr, hbr2, hB8⟩ := hrel
      have HOK := Lib.hid hok
      have HCS := Lib.hid hcs
      have HFS := Lib.hid hfs
      have hWr := below_first hbr
      have HE3 := Lib.hid (HE2.out.below hbr2)
      clear hok hcs hfs c0 c1 c2 c3 f0 f1 f2 f3
      by_cases hlt : k < 3
      · have hkl : k < ls.length := by omega
        have i1 : (k : Int) < (ls.length : Int) := by omega
        have i0 : (0 : Int) ≤ (k : Int) := by omega
        have i3 : (k : Int) < 3 := by omega
        have hc := (hbr2.cell (p := ⟨bx, ox + k, none⟩) hbx).trans (HCX.out k hkl)
        obtain ⟨x, hx⟩ : ∃ x, ls[k] = x := ⟨_, rfl⟩
        have hgd : ls.getD k [] = x := by rw [List.getD_eq_getElem?_getD, List.getElem?_eq_getElem hkl, hx]; rfl
        have HGD := Lib.hid hgd
        have HNo : Hid (okNum x = false → ParseIs l 0 0 0 [] 40) := by
          intro h
          refine parse_noNum (k := k) (by rw [HLS.out]; exact hkl) ?_
          have e : ∀ (a : List (List UInt8)) (h : k < a.length), a = ls → a[k] = x := fun a h e => by subst e; exact hx
          rw [e _ _ HLS.out]; exact h
        rw [hx] at hc
        have HXL : Hid ((S x).data.toList = x) := rfl
        have hxz : (S x).size = x.length := S_size x
        obtain ⟨t, ht⟩ : ∃ t, S x = t := ⟨_, rfl⟩
        rw [ht] at hc hxz HXL
        have htz : t.size ≤ 4294967281 + 1 := by
          have h1 : x.length ≤ (coreOf l).length := by
            have : x ∈ Sem4.dots (coreOf l) := by rw [HLS.out, ← hx]; exact List.getElem_mem hkl
            exact dots_part_size _ x this
          omega
        have HXZ := Lib.hid hxz
        clear hx hgd ht hxz
        cases hd : Sem4.digits x
        · have HP := Lib.hid (HNo.out (by unfold okNum; rw [hd]; rfl))
          have HD := Lib.hid hd
          clear hd
          go_wp2_with fail
          refine (digits_any t false (by rw [HXL.out]; exact HD.out) _ (by omega)).mono ?_
          rintro e w4 ⟨rfl, hb4⟩
          have hbE := box_then hbr hb4
          have c0 := box_cells hbE 0
          have c1 := box_cells hbE 1
          have c2 := box_cells hbE 2
          have c3 := box_cells hbE 3
          have f0 := box_free hbE 0
          have f1 := box_free hbE 1
          have f2 := box_free hbE 2
          have f3 := box_free hbE 3
          simp at c0 c1 c2 c3
          have hWE := below_first hbE
          go_wp2_with fail
          exact bodyPost_ret (v := .tuple #[.agg #[.int .i64 0, .int .i64 0, .int .i64 0, .string ⟨#[]⟩], .int .i64 40]) (by simp [results, Tryz.results34, go_sem, c0, c1, c2, c3]) rfl ⟨0, 0, 0, [], 40, rfl, HP.out, ((((hWE.setCell (Nat.le_refl _) _).setCell (Nat.le_refl _) _).setCell (Nat.le_refl _) _).setCell (Nat.le_refl _) _)⟩

        have HD := Lib.hid hd
        have hxn : x ≠ [] := by rintro rfl; exact absurd hd (by decide)
        have hx0 : 0 < t.size := by rw [HXZ.out]; exact List.length_pos_iff.2 hxn
        have hx0i : (0 : Int) < (t.size : Int) := by omega
        obtain ⟨x0, hx0'⟩ : ∃ x0, t[0] = x0 := ⟨_, rfl⟩
        have hhd : x.head? = some x0 := by
          have := head_byte t hx0
          rw [HXL.out, hx0'] at this; exact this
        have HHD := Lib.hid hhd
        have HXN := Lib.hid hxn
        clear hd hhd hxn
        by_cases h6 : 6 < t.size
        · have HP := Lib.hid (HNo.out (by unfold okNum; rw [HD.out, ← HXZ.out]; simp; omega))
          have q6 : decide ((6 : Int) < (t.size : Int)) = true := by simp; omega
          clear h6
          go_wp2_with fail
          refine (digits_any t true (by rw [HXL.out]; exact HD.out) _ (by omega)).mono ?_
          rintro e w4 ⟨rfl, hb4⟩
          have hbE := box_then hbr hb4
          have c0 := box_cells hbE 0
          have c1 := box_cells hbE 1
          have c2 := box_cells hbE 2
          have c3 := box_cells hbE 3
          have f0 := box_free hbE 0
          have f1 := box_free hbE 1
          have f2 := box_free hbE 2
          have f3 := box_free hbE 3
          simp at c0 c1 c2 c3
          have hWE := below_first hbE
          go_wp2_with fail
          exact bodyPost_ret (v := .tuple #[.agg #[.int .i64 0, .int .i64 0, .int .i64 0, .string ⟨#[]⟩], .int .i64 40]) (by simp [results, Tryz.results34, go_sem, c0, c1, c2, c3]) rfl ⟨0, 0, 0, [], 40, rfl, HP.out, ((((hWE.setCell (Nat.le_refl _) _).setCell (Nat.le_refl _) _).setCell (Nat.le_refl _) _).setCell (Nat.le_refl _) _)⟩

        have q6 : decide ((6 : Int) < (t.size : Int)) = false := by simp; omega
        have h6' : t.size ≤ 6 := by omega
        clear h6
        by_cases hz : 1 < t.size ∧ x0.toNat = 48
        · obtain ⟨hz1, hz2⟩ := hz
          have HP := Lib.hid (HNo.out (by
            unfold okNum; rw [HD.out, ← HXZ.out, HHD.out]
            have : x0 = 48 := UInt8.toNat_inj.1 hz2
            rw [this]; simp; omega))
          have q1 : decide ((1 : Int) < (t.size : Int)) = true := by simp; omega
          have q2 : ((x0.toNat : Int) == 48) = true := by simp; omega
          clear hz1 hz2
          go_wp2_with fail
          refine (digits_any t true (by rw [HXL.out]; exact HD.out) _ (by omega)).mono ?_
          rintro e w4 ⟨rfl, hb4⟩
          have hbE := box_then hbr hb4
          have c0 := box_cells hbE 0
          have c1 := box_cells hbE 1
          have c2 := box_cells hbE 2
          have c3 := box_cells hbE 3
          have f0 := box_free hbE 0
          have f1 := box_free hbE 1
          have f2 := box_free hbE 2
          have f3 := box_free hbE 3
          simp at c0 c1 c2 c3
          have hWE := below_first hbE
          go_wp2_with fail
          exact bodyPost_ret (v := .tuple #[.agg #[.int .i64 0, .int .i64 0, .int .i64 0, .string ⟨#[]⟩], .int .i64 40]) (by simp [results, Tryz.results34, go_sem, c0, c1, c2, c3]) rfl ⟨0, 0, 0, [], 40, rfl, HP.out, ((((hWE.setCell (Nat.le_refl _) _).setCell (Nat.le_refl _) _).setCell (Nat.le_refl _) _).setCell (Nat.le_refl _) _)⟩

        have HON : Hid (okNum x = true) := by
          refine (okNum_iff x).2 ⟨HD.out, by rw [← HXZ.out]; exact h6', ?_⟩
          rw [← HXZ.out, HHD.out]
          by_cases h1 : 1 < t.size
          · right
            intro e
            have := Option.some.inj e
            exact hz ⟨h1, by rw [this]; rfl⟩
          · left; omega
        have hz' : t.size ≤ 1 ∨ (1 < t.size ∧ x0.toNat ≠ 48) := by omega
        obtain ⟨N, hN⟩ : ∃ N, dfold x = N := ⟨_, rfl⟩
        have HN := Lib.hid hN
        have hAt := fun w => atoi_t t x N HXL.out (digits_all HD.out) HXN.out h6' HN.out w
        have HAt := Lib.hid hAt
        clear hz hN hAt
        rcases hz' with hz | ⟨hz, hz2⟩
        · have q1 : decide ((1 : Int) < (t.size : Int)) = false := by simp; omega
          clear hz
          go_wp2_with fail
          refine (digits_any t true (by rw [HXL.out]; exact HD.out) _ (by omega)).mono ?_
          rintro e w4 ⟨rfl, hb4⟩
          go_wp2_with fail
          refine (HAt.out _).mono ?_
          rintro e w5 ⟨rfl, hb5⟩
          have hb45 := below_then hb4 hb5
          have hk5 : w5.cell? ⟨w2.heap.size, k, none⟩ = some (.int .i64 0) := by
            rw [hb45.cell (p := ⟨w2.heap.size, k, none⟩) hB8, HCS.out k hlt, if_neg (by omega)]; rfl
          have hf5 : w5.frozen? ⟨w2.heap.size, k, none⟩ = false := by
            rw [hb45.frozen (p := ⟨w2.heap.size, k, none⟩) hB8]; exact HFS.out k hlt
          go_wp2_with fail
          go_roundw
          case rel =>
            refine ⟨k + 1, by omega, by go_num, fun j hj => ?_, fun j hj => ?_, fun j hj => ?_, ?_, ?_, ?_⟩
            · by_cases hjk : j = k
              · subst hjk; rw [HGD.out]; exact HON.out
              · exact HOK.out j (by omega)
            · by_cases hjk : j = k
              · subst hjk
                rw [World.cell?_setCell_same _ _ _ hk5, if_pos (by omega), HGD.out, HN.out]
              · rw [World.cell?_setCell_other _ _ _ _ (by intro e; injection e with _ e2; exact hjk e2.symm), hb45.cell (p := ⟨w2.heap.size, j, none⟩) hB8, HCS.out j hj]
                by_cases h : j < k
                · rw [if_pos h, if_pos (by omega)]
                · rw [if_neg h, if_neg (by omega)]
            · have := HFS.out j hj
              have h2 : w5.frozen? ⟨w2.heap.size, j, none⟩ = false := by
                rw [hb45.frozen (p := ⟨w2.heap.size, j, none⟩) hB8]; exact this
              go_simp
            · exact (box_then hbr hb45).setCell (by show w.heap.size + 1 ≤ w2.heap.size; omega) _
            · exact (below_then hbr2 hb45).setCell (Nat.le_refl _) _
            · have := hb45.size; simp; omega
          case measure => simp [intOf]; omega
        · have q1 : decide ((1 : Int) < (t.size : Int)) = true := by simp; omega
          have q2 : ((x0.toNat : Int) == 48) = false := by simp; omega
          clear hz hz2
          go_wp2_with fail
          refine (digits_any t true (by rw [HXL.out]; exact HD.out) _ (by omega)).mono ?_
          rintro e w4 ⟨rfl, hb4⟩
          go_wp2_with fail
          refine (HAt.out _).mono ?_
          rintro e w5 ⟨rfl, hb5⟩
          have hb45 := below_then hb4 hb5
          have hk5 : w5.cell? ⟨w2.heap.size, k, none⟩ = some (.int .i64 0) := by
            rw [hb45.cell (p := ⟨w2.heap.size, k, none⟩) hB8, HCS.out k hlt, if_neg (by omega)]; rfl
          have hf5 : w5.frozen? ⟨w2.heap.size, k, none⟩ = false := by
            rw [hb45.frozen (p := ⟨w2.heap.size, k, none⟩) hB8]; exact HFS.out k hlt
          go_wp2_with fail
          go_roundw
          case rel =>
            refine ⟨k + 1, by omega, by go_num, fun j hj => ?_, fun j hj => ?_, fun j hj => ?_, ?_, ?_, ?_⟩
            · by_cases hjk : j = k
              · subst hjk; rw [HGD.out]; exact HON.out
              · exact HOK.out j (by omega)
            · by_cases hjk : j = k
              · subst hjk
                rw [World.cell?_setCell_same _ _ _ hk5, if_pos (by omega), HGD.out, HN.out]
              · rw [World.cell?_setCell_other _ _ _ _ (by intro e; injection e with _ e2; exact hjk e2.symm), hb45.cell (p := ⟨w2.heap.size, j, none⟩) hB8, HCS.out j hj]
                by_cases h : j < k
                · rw [if_pos h, if_pos (by omega)]
                · rw [if_neg h, if_neg (by omega)]
            · have := HFS.out j hj
              have h2 : w5.frozen? ⟨w2.heap.size, j, none⟩ = false := by
                rw [hb45.frozen (p := ⟨w2.heap.size, j, none⟩) hB8]; exact this
              go_simp
            · exact (box_then hbr hb45).setCell (by show w.heap.size + 1 ≤ w2.heap.size; omega) _
            · exact (below_then hbr2 hb45).setCell (Nat.le_refl _) _
            · have := hb45.size; simp; omega
          case measure => simp [intOf]; omega
      · obtain rfl : k = 3 := by omega
        obtain ⟨N0, h0⟩ : ∃ N, dfold (ls.getD 0 []) = N := ⟨_, rfl⟩
        obtain ⟨N1, h1⟩ : ∃ N, dfold (ls.getD 1 []) = N := ⟨_, rfl⟩
        obtain ⟨N2, h2⟩ : ∃ N, dfold (ls.getD 2 []) = N := ⟨_, rfl⟩
        have e0 := HCS.out 0 (by omega)
        have e1 := HCS.out 1 (by omega)
        have e2 := HCS.out 2 (by omega)
        rw [if_pos (by omega), h0] at e0
        rw [if_pos (by omega), h1] at e1
        rw [if_pos (by omega), h2] at e2
        have HNo : Hid (¬ IsShow N0 N1 N2 (preOf l) l → ParseIs l 0 0 0 [] 40) := by
          intro h
          refine parse_no_end rfl ?_
          unfold numAt
          rw [HLS.out, h0, h1, h2]; exact h
        have HYes : Hid (verOk N0 N1 N2 (preOf l) = true → ParseIs l N0 N1 N2 (preOf l) 0) := by
          intro h
          refine parse_yes ⟨h, ?_⟩
          have hd : Sem4.dots (coreOf l) = [ls.getD 0 [], ls.getD 1 [], ls.getD 2 []] := by
            rw [HLS.out]
            have h3 := H3.out
            rcases ls with _ | ⟨a, _ | ⟨b, _ | ⟨c, _ | ⟨d, r⟩⟩⟩⟩ <;> simp at h3 ⊢
          have := parse_is hd (HOK.out 0 (by omega)) (HOK.out 1 (by omega)) (HOK.out 2 (by omega)) HMP.out
          rw [h0, h1, h2] at this
          simpa using this
        clear h0 h1 h2
        have q3 : decide (3 < ls.length) = false := by simp; omega
        have q4 : decide ((3 : Int) < (ls.length : Int)) = false := by simp; omega
        go_wp2_with fail
        cases hok : verOk N0 N1 N2 (preOf l)
        · have HP := Lib.hid (HNo.out (by rintro ⟨h, _⟩; rw [hok] at h; cases h))
          refine (checkP_as N0 N1 N2 P 40 (by rw [HSP.out]; unfold verErr; rw [hok]; rfl) _ (HE3.out.alloc _) (by omega)).mono ?_
          rintro e w4 ⟨rfl, hb4⟩
          clear hok
          have hbE := box_then (hbr.alloc (by omega) (.cells #[.int .i64 (N0 : Int), .int .i64 (N1 : Int), .int .i64 (N2 : Int), .string P] 45)) hb4
          have c0 := box_cells hbE 0
          have c1 := box_cells hbE 1
          have c2 := box_cells hbE 2
          have c3 := box_cells hbE 3
          have f0 := box_free hbE 0
          have f1 := box_free hbE 1
          have f2 := box_free hbE 2
          have f3 := box_free hbE 3
          simp at c0 c1 c2 c3
          have hWE := below_first hbE
          go_wp2_with fail
          exact bodyPost_ret (v := .tuple #[.agg #[.int .i64 0, .int .i64 0, .int .i64 0, .string ⟨#[]⟩], .int .i64 40]) (by simp [results, Tryz.results34, go_sem, c0, c1, c2, c3]) rfl ⟨0, 0, 0, [], 40, rfl, HP.out, ((((hWE.setCell (Nat.le_refl _) _).setCell (Nat.le_refl _) _).setCell (Nat.le_refl _) _).setCell (Nat.le_refl _) _)⟩
        · have HP := Lib.hid (HYes.out hok)
          refine (checkP_as N0 N1 N2 P 0 (by rw [HSP.out]; unfold verErr; rw [hok]; rfl) _ (HE3.out.alloc _) (by omega)).mono ?_
          rintro e w4 ⟨rfl, hb4⟩
          clear hok
          have hbE := box_then (hbr.alloc (by omega) (.cells #[.int .i64 (N0 : Int), .int .i64 (N1 : Int), .int .i64 (N2 : Int), .string P] 45)) hb4
          have hbV := box_of hb4
          have v0 := box_cells hbV 0
          have v1 := box_cells hbV 1
          have v2 := box_cells hbV 2
          have v3 := box_cells hbV 3
          have c0 := box_cells hbE 0
          have c1 := box_cells hbE 1
          have c2 := box_cells hbE 2
          have c3 := box_cells hbE 3
          have f0 := box_free hbE 0
          have f1 := box_free hbE 1
          have f2 := box_free hbE 2
          have f3 := box_free hbE 3
          simp at c0 c1 c2 c3 v0 v1 v2 v3
          have hWE := below_first hbE
          have hne : wr.heap.size ≠ w.heap.size := by omega
          go_wp2_with fail
          exact bodyPost_ret (v := .tuple #[.agg #[.int .i64 (N0 : Int), .int .i64 (N1 : Int), .int .i64 (N2 : Int), .string P], .int .i64 0]) (by simp [results, Tryz.results34, go_sem, c0, c1, c2, c3]) rfl ⟨N0, N1, N2, preOf l, 0, by rw [← HSP.out]; rfl, HP.out, ((((hWE.setCell (Nat.le_refl _) _).setCell (Nat.le_refl _) _).setCell (Nat.le_refl _) _).setCell (Nat.le_refl _) _)⟩
end Go.Proofs.YtboajinaiceekaaGreatDoor
