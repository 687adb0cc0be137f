/- The program's commands: Parse: a walk. -/
import Derived.Test.YtjjpngdbbjeaiaaGreatDoorCmd4
namespace Go
open Go.RowKit
/-- what reading a command comes to -/
def CParseAs (l : List UInt8) (w : World) (e : Ending) (w' : World) : Prop :=
  ∃ v, e = .returned (.tuple #[.agg #[.string (S (cparse l).1.word), v, .string (S (cparse l).1.body)], .int .i64 (cparse l).2]) ∧ Strs w' v (cparse l).1.args ∧ (∃ a cap, v = .slice a (cparse l).1.args.length cap) ∧ Below w.heap.size w w'
theorem Strs.nil (w : World) : Strs w (.slice none 0 0) [] := ⟨rfl, Nat.zero_le _, .inl ⟨_, _, rfl, rfl, fun _ => rfl⟩⟩
theorem cparse_err {l : List UInt8} {w w' : World} {er : Int} (h : cparse l = (Cmd.zero, er)) (hb : Below w.heap.size w w') : CParseAs l w (.returned (.tuple #[.agg #[.string ⟨#[]⟩, .slice none 0 0, .string ⟨#[]⟩], .int .i64 er])) w' := by
  refine ⟨.slice none 0 0, ?_, ?_, ?_, hb⟩
  · rw [h]; rfl
  · rw [h]; exact Strs.nil _
  · rw [h]; exact ⟨_, _, rfl⟩
theorem cparse_ok {l W Bd : List UInt8} {T : List (List UInt8)} {X B : ByteArray} {v : Value} {w w' : World} (h : cparse l = (⟨W, T, Bd⟩, 0)) (hX : S W = X) (hB : S Bd = B) (hv : Strs w' v T) (hl : ∃ a cap, v = .slice a T.length cap) (hb : Below w.heap.size w w') :
    CParseAs l w (.returned (.tuple #[.agg #[.string X, v, .string B], .int .i64 0])) w' := by
  subst hX hB
  refine ⟨v, ?_, ?_, ?_, hb⟩
  · rw [h]
  · rw [h]; exact hv
  · rw [h]; exact hl
theorem right_nil (W : List UInt8) : rightB W [] = false := by
  unfold rightB
  cases h : kindsOf W ([] : List (List UInt8)).length with
  | none => rfl
  | some ks =>
    unfold kindsOf at h
    simp at h
theorem cparse_big {l : List UInt8} (h : 8000 < l.length) : cparse l = (Cmd.zero, 3) := by unfold cparse; rw [if_pos h]
theorem cparse_as {l W : List UInt8} {T : List (List UInt8)} (h : ¬ 8000 < l.length) (hs : sepAt 32 (headAt 10 l) = W :: T) : cparse l = if rightB W T && (hasBody W == hasAt 10 l) then (⟨W, T, tailAt 10 l⟩, 0) else (Cmd.zero, 270) := by
  unfold cparse
  rw [if_neg h, hs]; rfl
end Go
namespace Go.Proofs.YtjjpngdbbjeaiaaGreatDoor
open Go.RowKit
set_option maxRecDepth 100000 in
set_option maxHeartbeats 1000000 in
theorem cparse_any (s : ByteArray) (w : World) (hE : Env w) :
    Calls Tryz.prog 25 #[.string s] w (CParseAs s.data.toList w) := by
  have HE := Lib.hid hE
  clear hE
  have hW := (Below.refl w.heap.size w).alloc (Nat.le_refl _) (.cells #[.string ⟨#[]⟩, .slice none 0 0, .string ⟨#[]⟩] 52)
  by_cases hbig : 8000 < s.size
  · have q : decide ((8000 : Int) < (s.size : Int)) = true := by simp; omega
    have HO := Lib.hid (cparse_big (l := s.data.toList) (by rw [← Lib.size_eq]; exact hbig))
    clear hbig
    go_enter Tryz.func25, Tryz.ntmps25
    go_wp2_with fail
    exact bodyPost_ret (v := .tuple #[.agg #[.string ⟨#[]⟩, .slice none 0 0, .string ⟨#[]⟩], .int .i64 3]) (by simp [results, Tryz.results25, go_sem]) rfl (cparse_err HO.out hW)
  have q : decide ((8000 : Int) < (s.size : Int)) = false := by simp; omega
  have hs : s.size ≤ 8000 := by omega
  obtain ⟨W, T, hWT⟩ : ∃ W T, sepAt 32 (headAt 10 s.data.toList) = W :: T := by
    cases h : sepAt 32 (headAt 10 s.data.toList) with
    | nil => exact absurd h (sepAt_ne _ _)
    | cons W T => exact ⟨W, T, rfl⟩
  have HO := Lib.hid (cparse_as (l := s.data.toList) (by rw [← Lib.size_eq]; exact hbig) hWT)
  obtain ⟨A, hA⟩ : ∃ A, S (headAt 10 s.data.toList) = A := ⟨_, rfl⟩
  obtain ⟨B, hB⟩ : ∃ B, S (tailAt 10 s.data.toList) = B := ⟨_, rfl⟩
  obtain ⟨M, hM⟩ : ∃ M, hasAt 10 s.data.toList = M := ⟨_, rfl⟩
  have hAs : A.size ≤ 8000 := by
    rw [← hA, S_size]; have := headAt_len 10 s.data.toList; rw [← Lib.size_eq] at this; omega
  have HTn : Hid (T.length ≤ 8000) := by
    have h1 := sepAt_count 32 (headAt 10 s.data.toList)
    have h2 := List.count_le_length (a := (32 : UInt8)) (l := headAt 10 s.data.toList)
    rw [hWT] at h1
    have h3 : (headAt 10 s.data.toList).length = A.size := by rw [← hA, S_size]
    show _ ≤ _
    simp at h1; omega
  have hAd : sepAt 32 A.data.toList = W :: T := by rw [← hA]; exact hWT
  have HTz : Hid (∀ p ∈ W :: T, p.length ≤ 8000) := by
    intro p hp
    rw [← hAd] at hp
    have := sepAt_size 32 _ p hp
    rw [← Lib.size_eq] at this; omega
  have HSP := fun w hE => splitW_any 32 A w hE (by omega)
  obtain ⟨N, hN⟩ : ∃ N, (W :: T).length = N := ⟨_, rfl⟩
  rw [hAd, hN] at HSP
  have HSP := Lib.hid HSP
  have HN := Lib.hid hN
  have HCT := cutC_any 10 s
  rw [hA, hB, hM] at HCT
  have HCT := Lib.hid HCT
  rw [hM] at HO
  have HB := Lib.hid hB
  clear hWT hA hB hM hAd hbig hN
  obtain ⟨X, hX⟩ : ∃ X, S W = X := ⟨_, rfl⟩
  have hXd : X.data.toList = W := by rw [← hX]; rfl
  obtain ⟨r, hr⟩ : ∃ r, rightB W T = r := ⟨_, rfl⟩
  obtain ⟨bd, hbd⟩ : ∃ r, (rightB W T && hasBody W) = r := ⟨_, rfl⟩
  have hbw : (rightB W T && (hasBody W == M)) = (r && (bd == M)) := by rw [← hbd, hr]; cases r <;> rfl
  have HK := Lib.hid (known_as X T r bd (by rw [hXd]; exact hr) (by rw [hXd]; exact hbd))
  rw [hbw] at HO
  have HR := Lib.hid hr
  have HTs : Hid (∀ l ∈ T, l.length < 4294967281) := fun l hl => by have := HTz.out l (by simp [hl]); omega
  have HXs := Lib.hid hX
  clear hr hbd hXd hX hbw
  go_enter Tryz.func25, Tryz.ntmps25
  go_wp2_with fail
  refine (HCT.out _ (HE.out.below hW) (by omega)).mono ?_
  rintro e w1 ⟨rfl, hb1⟩
  have hb1' := box_of hb1
  have hW1 := below_then hW hb1
  clear hb1
  go_wp2_with fail
  refine (HSP.out _ (HE.out.below hW1)).mono ?_
  rintro e w2 ⟨rfl, hv, hb2⟩
  have hb2' := box_then hb1' hb2
  have hW2 := below_then hW1 hb2
  have HE2 := Lib.hid (HE.out.below hW2)
  have c0 := box_cells hb2' 0
  have c1 := box_cells hb2' 1
  have c2 := box_cells hb2' 2
  have f0 := box_free hb2' 0
  have f1 := box_free hb2' 1
  have f2 := box_free hb2' 2
  simp at c0 c1 c2
  clear hb1' hb2 hW1
  obtain ⟨bx, ox, cx, hva, hbx, hcx⟩ := hv.full (by simp)
  have hb0 : bx = w1.heap.size ∧ ox = 0 := by injection hva with h; injection h with h; injection h with h1 h2; exact ⟨h1.symm, h2.symm⟩
  obtain ⟨rfl, rfl⟩ := hb0
  have d0 := hcx 0 (by simp)
  simp at d0
  rw [HXs.out] at d0
  have HV := Lib.hid hv
  have hz := cell_lt c0
  clear hcx hva hv c0 c1 c2 f0 f1 f2
  cases r with
  | false =>
    have HF : Hid (cparse s.data.toList = (Cmd.zero, 270)) := by show _ = _; rw [HO.out]; rfl
    by_cases h1 : N = 1
    · subst h1
      have HT : Hid (T = []) := List.eq_nil_of_length_eq_zero (by have := HN.out; simpa using this)
      go_wp2_with fail
      have hd0 := (Below.refl w2.heap.size w2).drew
      have HH : Hid (∀ W, (W.cell? ⟨w1.heap.size, 0, none⟩ = some (.string X) ∧ Below w2.heap.size w2 W) → Calls Tryz.prog 50 #[.string X, (.slice (some ⟨w1.heap.size, 0, none⟩) 0 0)] W fun e w' => e = .returned (.tuple #[.bool bd, .bool false]) ∧ (w'.cell? ⟨w1.heap.size, 0, none⟩ = some (.string X) ∧ Below w2.heap.size w2 w')) :=
        fun W hW => keepC1 w2 _ _ hbx _ hW (HK.out (.slice (some ⟨w1.heap.size, 0, none⟩) 0 0) _ (by rw [HT.out]; exact ⟨rfl, Nat.zero_le _, .inl ⟨_, _, rfl, rfl, fun h => by cases h⟩⟩) ⟨_, _, by rw [HT.out]; rfl⟩ (HE2.out.below hW.2) HTs.out)
      go_region_held3 (fun w' => w'.cell? ⟨w1.heap.size, 0, none⟩ = some (.string X) ∧ Below w2.heap.size w2 w') (go_keep) ((go_at_call 50; refine (HH.out _ (by assumption)).mono ?_; rintro e w3 ⟨rfl, hk3⟩))
      clear HH
      obtain ⟨d0', hb3⟩ := hk3
      have hb3' := box_then hb2' hb3
      have hW3 := below_first hb3'
      have c0 := box_cells hb3' 0
      have c1 := box_cells hb3' 1
      have c2 := box_cells hb3' 2
      have f0 := box_free hb3' 0
      have f1 := box_free hb3' 1
      have f2 := box_free hb3' 2
      simp at c0 c1 c2
      go_wp2_with fail
      exact bodyPost_ret (v := .tuple #[.agg #[.string ⟨#[]⟩, .slice none 0 0, .string ⟨#[]⟩], .int .i64 270]) (by simp [results, Tryz.results25, go_sem, c0, c1, c2]) rfl (cparse_err HF.out (((hW3.setCell (Nat.le_refl _) _).setCell (Nat.le_refl _) _).setCell (Nat.le_refl _) _))
    · have j0 : 0 < N := by have := HN.out; simp at this; omega
      have j1 : 1 ≤ N := j0
      have j2 : (1 : Int) ≤ (N : Int) := by omega
      have j3 : (0 : Int) < (N : Int) := by omega
      have j4 : decide (N = 1) = false := decide_eq_false h1
      have j5 : ((N : Int) == 1) = false := by simp; omega
      have j6 : 1 < N := by omega
      have HN1 : Hid (T.length = N - 1) := by show _ = _; rw [← HN.out]; simp
      go_wp2_with fail
      have hd0 := (Below.refl w2.heap.size w2).drew
      have HH : Hid (∀ W, (W.cell? ⟨w1.heap.size, 0, none⟩ = some (.string X) ∧ Below w2.heap.size w2 W) → Calls Tryz.prog 50 #[.string X, (.slice (some ⟨w1.heap.size, 1, none⟩) (N - 1) (N - 1))] W fun e w' => e = .returned (.tuple #[.bool bd, .bool false]) ∧ (w'.cell? ⟨w1.heap.size, 0, none⟩ = some (.string X) ∧ Below w2.heap.size w2 w')) :=
        fun W hW => keepC1 w2 _ _ hbx _ hW (HK.out (.slice (some ⟨w1.heap.size, 1, none⟩) (N - 1) (N - 1)) _ ((HV.out.tail1 HN.out j6).below hW.2 (Nat.le_refl _)) ⟨_, _, by rw [HN1.out]⟩ (HE2.out.below hW.2) HTs.out)
      go_region_held3 (fun w' => w'.cell? ⟨w1.heap.size, 0, none⟩ = some (.string X) ∧ Below w2.heap.size w2 w') (go_keep) ((go_at_call 50; refine (HH.out _ (by assumption)).mono ?_; rintro e w3 ⟨rfl, hk3⟩))
      clear HH
      obtain ⟨d0', hb3⟩ := hk3
      have hb3' := box_then hb2' hb3
      have hW3 := below_first hb3'
      have c0 := box_cells hb3' 0
      have c1 := box_cells hb3' 1
      have c2 := box_cells hb3' 2
      have f0 := box_free hb3' 0
      have f1 := box_free hb3' 1
      have f2 := box_free hb3' 2
      simp at c0 c1 c2
      go_wp2_with fail
      exact bodyPost_ret (v := .tuple #[.agg #[.string ⟨#[]⟩, .slice none 0 0, .string ⟨#[]⟩], .int .i64 270]) (by simp [results, Tryz.results25, go_sem, c0, c1, c2]) rfl (cparse_err HF.out (((hW3.setCell (Nat.le_refl _) _).setCell (Nat.le_refl _) _).setCell (Nat.le_refl _) _))
  | true =>
    have hT1 : ¬ N = 1 := by
      rintro rfl
      have hT : T = [] := List.eq_nil_of_length_eq_zero (by have := HN.out; simpa using this)
      have h := HR.out
      rw [hT] at h
      exact absurd h (by rw [right_nil]; decide)
    have j0 : 0 < N := by have := HN.out; simp at this; omega
    have j1 : 1 ≤ N := j0
    have j2 : (1 : Int) ≤ (N : Int) := by omega
    have j3 : (0 : Int) < (N : Int) := by omega
    have j4 : decide (N = 1) = false := decide_eq_false hT1
    have j5 : ((N : Int) == 1) = false := by simp; omega
    have j6 : 1 < N := by omega
    have HN1 : Hid (T.length = N - 1) := by show _ = _; rw [← HN.out]; simp
    have HNb : Hid (N ≤ 8001) := by show _ ≤ _; rw [← HN.out]; have := HTn.out; simp; omega
    have HH : Hid (∀ W, (W.cell? ⟨w1.heap.size, 0, none⟩ = some (.string X) ∧ Below w2.heap.size w2 W) → Calls Tryz.prog 50 #[.string X, (.slice (some ⟨w1.heap.size, 1, none⟩) (N - 1) (N - 1))] W fun e w' => e = .returned (.tuple #[.bool bd, .bool true]) ∧ (w'.cell? ⟨w1.heap.size, 0, none⟩ = some (.string X) ∧ Below w2.heap.size w2 w')) :=
      fun W hW => keepC1 w2 _ _ hbx _ hW (HK.out (.slice (some ⟨w1.heap.size, 1, none⟩) (N - 1) (N - 1)) _ ((HV.out.tail1 HN.out j6).below hW.2 (Nat.le_refl _)) ⟨_, _, by rw [HN1.out]⟩ (HE2.out.below hW.2) HTs.out)
    by_cases hbm : bd = M
    · subst hbm
      have HF : Hid (cparse s.data.toList = (⟨W, T, tailAt 10 s.data.toList⟩, 0)) := by show _ = _; rw [HO.out]; cases bd <;> rfl
      cases bd
      all_goals
        go_wp2_with fail
        have hd0 := (Below.refl w2.heap.size w2).drew
        go_region_held3 (fun w' => w'.cell? ⟨w1.heap.size, 0, none⟩ = some (.string X) ∧ Below w2.heap.size w2 w') (go_keep) ((go_at_call 50; refine (HH.out _ (by assumption)).mono ?_; rintro e w3 ⟨rfl, hk3⟩))
        clear HH
        obtain ⟨d0', hb3⟩ := hk3
        have hb3' := box_then hb2' hb3
        have hW3 := below_first hb3'
        have c0 := box_cells hb3' 0
        have c1 := box_cells hb3' 1
        have c2 := box_cells hb3' 2
        have f0 := box_free hb3' 0
        have f1 := box_free hb3' 1
        have f2 := box_free hb3' 2
        simp at c0 c1 c2
        have d0 := d0'
        have hbx3 := cell_lt d0
        have hz3 := cell_lt c0
        go_wp2_with fail
        go_region_with (go_at_call 51; refine (clone_n _ _ _ _ T _ HN1.out ((HV.out.tail1 HN.out j6).below (by first | exact hb3.drew | exact hb3) (Nat.le_refl _)) (by omega) (by have := HNb.out; omega)).mono ?_; rintro e w4 ⟨v, rfl, hv4, ⟨va, vc, rfl⟩, hb4, hf4⟩; have hb4' := box_then hb3'.drew hb4; have d4 := (hb4.cell (p := ⟨w1.heap.size, 0, none⟩) hbx3).trans d0; have g0 := box_cells hb4' 0; have g1 := box_cells hb4' 1; have g2 := box_cells hb4' 2; have e0 := box_free hb4' 0; have e1 := box_free hb4' 1; have e2 := box_free hb4' 2; simp at g0 g1 g2)
        all_goals
          have hW4 := below_first hb4'
          have hlt3 : w.heap.size < w3.heap.size := hz3
          go_wp2_with fail
          exact bodyPost_ret (v := .tuple #[.agg #[.string X, .slice va T.length vc, .string B], .int .i64 0]) (by simp [results, Tryz.results25, go_sem, g0, g1, g2]) rfl (cparse_ok HF.out HXs.out HB.out (((hv4.set_elder hf4 _ hlt3 _).set_elder hf4 _ hlt3 _).set_elder hf4 _ hlt3 _) ⟨_, _, rfl⟩ (((hW4.setCell (Nat.le_refl _) _).setCell (Nat.le_refl _) _).setCell (Nat.le_refl _) _))
    · have HF : Hid (cparse s.data.toList = (Cmd.zero, 270)) := by show _ = _; rw [HO.out]; cases bd <;> cases M <;> first | rfl | exact absurd rfl hbm
      cases bd <;> cases M
      all_goals first
        | exact absurd rfl hbm
        | skip
      all_goals
        clear hbm
        go_wp2_with fail
        have hd0 := (Below.refl w2.heap.size w2).drew
        go_region_held3 (fun w' => w'.cell? ⟨w1.heap.size, 0, none⟩ = some (.string X) ∧ Below w2.heap.size w2 w') (go_keep) ((go_at_call 50; refine (HH.out _ (by assumption)).mono ?_; rintro e w3 ⟨rfl, hk3⟩))
        clear HH
        obtain ⟨d0', hb3⟩ := hk3
        have hb3' := box_then hb2' hb3
        have hW3 := below_first hb3'
        have c0 := box_cells hb3' 0
        have c1 := box_cells hb3' 1
        have c2 := box_cells hb3' 2
        have f0 := box_free hb3' 0
        have f1 := box_free hb3' 1
        have f2 := box_free hb3' 2
        simp at c0 c1 c2
        go_wp2_with fail
        exact bodyPost_ret (v := .tuple #[.agg #[.string ⟨#[]⟩, .slice none 0 0, .string ⟨#[]⟩], .int .i64 270]) (by simp [results, Tryz.results25, go_sem, c0, c1, c2]) rfl (cparse_err HF.out (((hW3.setCell (Nat.le_refl _) _).setCell (Nat.le_refl _) _).setCell (Nat.le_refl _) _))
end Go.Proofs.YtjjpngdbbjeaiaaGreatDoor
