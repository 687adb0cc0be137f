/- The program's commands: Show: a walk. -/
import Derived.Test.YtjjpngdbbjeaiaaGreatDoorCmd4
import Derived.Test.YtjjpngdbbjeaiaaGreatDoorRanMath3
namespace Go
open Go.RowKit
theorem cshow_no {c : Cmd} (h : rightB c.word c.args = false) : cshow c = ([], 270) := by unfold cshow; rw [h]; rfl
theorem cshow_no2 {c : Cmd} (h : hasBody c.word = false) (hb : c.body ≠ []) : cshow c = ([], 270) := by
  unfold cshow
  rw [h]
  cases hc : c.body with
  | nil => exact absurd hc hb
  | cons a l => simp
theorem cshow_yes {c : Cmd} (h : rightB c.word c.args = true) (hb : hasBody c.word = true ∨ c.body = []) : cshow c = if 8000 < (cmdText c).length then ([], 3) else (cmdText c, 0) := by
  unfold cshow
  have : (hasBody c.word || c.body.isEmpty) = true := by
    rcases hb with h | h
    · rw [h]; rfl
    · rw [h]; simp
  rw [h, this]; rfl
theorem kinds_small {word : List UInt8} {n : Nat} {ks : List UInt8} (h : kindsOf word n = some ks) : word.length ≤ 9 ∧ ks.length = n ∧ 1 ≤ n ∧ n ≤ 4 := by
  unfold kindsOf at h
  repeat' (split at h)
  all_goals first
    | (rename_i hw hn; subst hw; injection h with h; subst h hn; decide)
    | (rename_i hw _ hn; subst hw; injection h with h; subst h hn; decide)
    | (rename_i hw hn; injection h with h; subst h hn; rcases hw with rfl | rfl | rfl <;> decide)
    | cases h
theorem fits_small {a : List UInt8} {k : UInt8} (h : fitsB a k = true) : a.length ≤ 60 := by
  unfold fitsB at h
  split at h
  · have := (name_len h).2.1; omega
  · split at h
    · obtain ⟨v, hv⟩ := isVer_true.1 h
      have hb := verOk_bounds hv.1
      have := showL_len (a := v.a.toNat) (b := v.b.toNat) (c := v.c.toNat) (p := v.p.data.toList) (by omega) (by omega) (by omega) (by omega)
      have e : v.show = a := hv.2
      unfold V4.show at e
      rw [e] at this
      omega
    · unfold stepsOk at h
      simp only [Bool.and_eq_true, decide_eq_true_eq] at h
      have := h.1.1.2
      omega
theorem right_small {word : List UInt8} {args : List (List UInt8)} (h : rightB word args = true) : word.length ≤ 9 ∧ 1 ≤ args.length ∧ args.length ≤ 4 ∧ ∀ p ∈ word :: args, p.length ≤ 60 := by
  unfold rightB at h
  split at h
  · rename_i ks hk
    have h1 := kinds_small hk
    have h2 : ∀ p ∈ args, p.length ≤ 60 := by
      intro p hp
      obtain ⟨j, hj, rfl⟩ := List.getElem_of_mem hp
      have := (allFit_iff.1 h).2 j hj
      rw [List.getD_eq_getElem?_getD, List.getElem?_eq_getElem hj] at this
      exact fits_small this
    refine ⟨h1.1, h1.2.2.1, h1.2.2.2, fun p hp => ?_⟩
    rcases List.mem_cons.1 hp with rfl | hp
    · omega
    · exact h2 p hp
  · cases h
theorem app_src {w w1 : World} {bx ox : Nat} {T : List (List UInt8)} {o : Obj} (hc : ∀ (j : Nat) (h : j < T.length), w.cell? ⟨bx, ox + j, none⟩ = some (.string (S T[j]))) (hbx : bx < w.heap.size) (hb : Below w.heap.size w w1) :
    ∀ (j : Nat) (u : Value), (strs T)[j]? = some u → (w1.alloc o).cell? ((⟨bx, ox, none⟩ : Addr).add j) = some u := by
  intro j u hj
  have hjl : j < T.length := by have := (List.getElem?_eq_some_iff.1 hj).1; rw [strs_length] at this; exact this
  rw [strs_get T j hjl] at hj
  rw [show (⟨bx, ox, none⟩ : Addr).add j = ⟨bx, ox + j, none⟩ by unfold Addr.add; split <;> simp_all]
  rw [((hb.alloc hb.size o).cell (p := ⟨bx, ox + j, none⟩) hbx), hc j hjl]
  exact hj
theorem strs_one {T : List (List UInt8)} : ∀ u ∈ strs T, u.oneCell' = true := by
  intro u hu
  unfold strs at hu
  obtain ⟨x, _, rfl⟩ := List.mem_map.1 hu; rfl
theorem owns_cap {w : World} {base : Nat} {e : TypeId} {n cap : Nat} {a : Option Addr} {size m : Nat} {xs : List Value} (h : w.ownsRow base e size (.slice a m cap) n xs) (hn : 0 < n) : n ≤ cap := by
  rcases h.2 with ⟨_, h2⟩ | ⟨g, cap', cur, h1, _, _, h4, _⟩
  · omega
  · injection h1 with _ _ h3
    omega
end Go
namespace Go.Proofs.YtjjpngdbbjeaiaaGreatDoor
open Go.RowKit
def CShowAs (c : Cmd) (w : World) (e : Ending) (w' : World) : Prop := e = .returned (.tuple #[.string (S (cshow c).1), .int .i64 (cshow c).2]) ∧ Below w.heap.size w w'
theorem cshow_as {c : Cmd} {w w' : World} {A : ByteArray} {er : Int} (h : cshow c = (A.data.toList, er)) (hb : Below w.heap.size w w') : CShowAs c w (.returned (.tuple #[.string A, .int .i64 er])) w' :=
  ⟨by rw [h]; rfl, hb⟩
set_option maxRecDepth 100000 in
set_option maxHeartbeats 1000000 in
theorem cshow_any (X : ByteArray) (v : Value) (T : List (List UInt8)) (B : ByteArray) (w : World) (hE : Env w) (hv : Strs w v T) (hlen : ∃ a cap, v = .slice a T.length cap) (hs : ∀ l ∈ T, l.length < 4294967281) (hB : rightB X.data.toList T = true → B.size ≤ 4294967281) :
    Calls Tryz.prog 29 #[.agg #[.string X, v, .string B]] w (CShowAs ⟨X.data.toList, T, B.data.toList⟩ w) := by
  have HE := Lib.hid hE
  have HS := Lib.hid hs
  have HV := Lib.hid hv
  have HBz := Lib.hid hB
  obtain ⟨a, cap, rfl⟩ := hlen
  clear hE hs hv hB
  have hW := (Below.refl w.heap.size w).alloc (Nat.le_refl _) (.cells #[.string X, .slice a T.length cap, .string B] 52)
  obtain ⟨r, hr⟩ : ∃ r, rightB X.data.toList T = r := ⟨_, rfl⟩
  obtain ⟨bd, hbd⟩ : ∃ r, (rightB X.data.toList T && hasBody X.data.toList) = r := ⟨_, rfl⟩
  have HK := Lib.hid (known_as X T r bd hr hbd)
  obtain ⟨em, hem⟩ : ∃ em, B.toList.isEmpty = em := ⟨_, rfl⟩
  have HR := Lib.hid hr
  have HBD := Lib.hid hbd
  have HEM : Hid (B.data.toList.isEmpty = em) := by show _ = _; rw [← Lib.toList_data]; exact hem
  clear hr hbd
  cases r with
  | false =>
    have HF : Hid (cshow ⟨X.data.toList, T, B.data.toList⟩ = ([], 270)) := cshow_no HR.out
    clear hem
    go_enter Tryz.func29, Tryz.ntmps29
    go_wp2_with fail
    refine (HK.out _ _ (HV.out.below hW (Nat.le_refl _)) ⟨_, _, rfl⟩ (HE.out.below hW) HS.out).mono ?_
    rintro e w1 ⟨rfl, hb1⟩
    have hb1' := box_of hb1
    go_wp2_with fail
    go_ret2
    exact cshow_as (A := ⟨#[]⟩) HF.out (below_first hb1')
  | true =>
    have hB := HBz.out HR.out
    have hsm := right_small HR.out
    have hT0 : 0 < T.length := by omega
    have hT4 : T.length ≤ 4 := by omega
    have HSm := Lib.hid hsm.2.2.2
    obtain ⟨bx, ox, cx, hva, hbx, hcx⟩ := HV.out.full hT0
    have ha : a = some ⟨bx, ox, none⟩ := by injection hva
    subst ha
    have HCX := Lib.hid hcx
    have HI := Lib.hid (info_parts info_str)
    clear hva hcx hsm
    have HBd : Hid (hasBody X.data.toList = bd) := by have h := HBD.out; rw [HR.out] at h; exact h
    cases bd with
    | false =>
      cases em with
      | false =>
        have HF : Hid (cshow ⟨X.data.toList, T, B.data.toList⟩ = ([], 270)) := cshow_no2 HBd.out (by intro h; have := HEM.out; simp only at h; rw [h] at this; cases this)
        go_enter Tryz.func29, Tryz.ntmps29
        go_wp2_with fail
        refine (HK.out _ _ (HV.out.below hW (Nat.le_refl _)) ⟨_, _, rfl⟩ (HE.out.below hW) HS.out).mono ?_
        rintro e w1 ⟨rfl, hb1⟩
        have hb1' := box_of hb1
        have c2 := box_cells hb1' 2
        simp at c2
        go_wp2_with fail
        go_ret2
        exact cshow_as (A := ⟨#[]⟩) HF.out (below_first hb1')
      | true =>
        go_enter Tryz.func29, Tryz.ntmps29
        go_wp2_with fail
        refine (HK.out _ _ (HV.out.below hW (Nat.le_refl _)) ⟨_, _, rfl⟩ (HE.out.below hW) HS.out).mono ?_
        rintro e w1 ⟨rfl, hb1⟩
        have hb1' := box_of hb1
        have c0 := box_cells hb1' 0
        have c1 := box_cells hb1' 1
        have c2 := box_cells hb1' 2
        simp at c0 c1 c2
        have hz := cell_lt c0
        have hbW := below_first hb1'
        have hown0 : (w1.alloc (.cells #[.string X] 9)).ownsRow w1.heap.size 9 1 (.slice (some ⟨w1.heap.size, 0, none⟩) 1 1) 1 [.string X] := ⟨rfl, .inr ⟨w1.heap.size, 1, _, rfl, Nat.le_refl _, Below_heap_new w1 _, Nat.le_refl _, by decide, rfl, rfl⟩⟩
        have HO0 := Lib.hid hown0
        have HC1 := Lib.hid (app_src (o := .cells #[.string X] 9) HCX.out hbx hbW)
        obtain ⟨i0, hi, hz0, hz1, hz2⟩ := HI.out
        clear hown0
        go_wp2_with (at_builtin; go_must (refine wpList_append_own _ rfl _ _ 50 rfl w1.heap.size 9 i0 (.string ⟨#[]⟩) 1 16 Tryz.underlying50 hi hz0 hz1 hz2 rfl (by decide) _ _ _ rfl HO0.out ⟨bx, ox, none⟩ T.length cap (strs T) rfl (by rw [strs_length, Nat.mul_one]) HC1.out strs_one (by unfold maxLen; omega) (by omega) (by simp) ?_))
        intro v' w2 hown hg _
        have hb2 := ((Below.refl w1.heap.size w1).alloc (Nat.le_refl _) (.cells #[.string X] 9)).grown hg (by simp) (by intro k hk; simp [Value.ownBlock] at hk; omega)
        have hb2' := box_then hb1' hb2
        have hW2 := below_first hb2'
        have c2 := box_cells hb2' 2
        simp at c2
        have hcpo := hown
        obtain ⟨g2, cap2, hv2⟩ := Joins.ownsRow_form hown (by omega)
        subst hv2
        have hc2 := owns_cap hown (by omega)
        have hS2 : Strs w2 (.slice (some ⟨g2, 0, none⟩) (1 + T.length) cap2) (X.data.toList :: T) := Strs.of_owns (ls := X.data.toList :: T) hown
        have hjl : (joinAt 32 (X.data.toList :: T)).length ≤ 400 := by
          have := joinAt_len 32 60 (X.data.toList :: T) HSm.out
          rw [List.length_cons] at this
          have h5 : (T.length + 1) * (60 + 1) ≤ 5 * 61 := Nat.mul_le_mul (by omega) (by omega)
          omega
        have HJ := Lib.hid (joinB_any _ _ w2 hS2 (by simp) (by intro a n c h; injection h with h1 h2 h3; omega) (by omega) (by rw [List.length_cons]; omega))
        obtain ⟨J, hJ⟩ : ∃ J, S (joinAt 32 (X.data.toList :: T)) = J := ⟨_, rfl⟩
        have HJd : Hid (J.data.toList = joinAt 32 (X.data.toList :: T)) := by show _ = _; rw [← hJ]; rfl
        have hJs : J.size ≤ 400 := by rw [← hJ, S_size]; exact hjl
        rw [hJ] at HJ
        clear hg hown hS2 hJ c0 c1 hjl hcpo
        go_wp2_with fail
        refine HJ.out.mono ?_
        rintro e w3 ⟨rfl, hb3⟩
        have hb3' := box_then hb2' hb3
        have hW3 := below_first hb3'
        have c2 := box_cells hb3' 2
        simp at c2
        have q8 : decide ((8000 : Int) < (J.size : Int)) = false := by simp; omega
        have HF : Hid (cshow ⟨X.data.toList, T, B.data.toList⟩ = (J.data.toList, 0)) := by
          have hnil : B.data.toList = [] := List.isEmpty_iff.1 HEM.out
          have ht : cmdText ⟨X.data.toList, T, B.data.toList⟩ = J.data.toList := by
            unfold cmdText
            simp only
            rw [HBd.out, HJd.out]; simp
          show _ = _
          rw [cshow_yes HR.out (.inr hnil), ht, if_neg (by rw [← Lib.size_eq]; omega)]
        go_wp2_with fail
        go_ret2
        exact cshow_as HF.out hW3
    | true =>
      go_enter Tryz.func29, Tryz.ntmps29
      go_wp2_with fail
      refine (HK.out _ _ (HV.out.below hW (Nat.le_refl _)) ⟨_, _, rfl⟩ (HE.out.below hW) HS.out).mono ?_
      rintro e w1 ⟨rfl, hb1⟩
      have hb1' := box_of hb1
      have c0 := box_cells hb1' 0
      have c1 := box_cells hb1' 1
      have c2 := box_cells hb1' 2
      simp at c0 c1 c2
      have hz := cell_lt c0
      have hbW := below_first hb1'
      have hown0 : (w1.alloc (.cells #[.string X] 9)).ownsRow w1.heap.size 9 1 (.slice (some ⟨w1.heap.size, 0, none⟩) 1 1) 1 [.string X] := ⟨rfl, .inr ⟨w1.heap.size, 1, _, rfl, Nat.le_refl _, Below_heap_new w1 _, Nat.le_refl _, by decide, rfl, rfl⟩⟩
      have HO0 := Lib.hid hown0
      have HC1 := Lib.hid (app_src (o := .cells #[.string X] 9) HCX.out hbx hbW)
      obtain ⟨i0, hi, hz0, hz1, hz2⟩ := HI.out
      clear hown0
      go_wp2_with (at_builtin; go_must (refine wpList_append_own _ rfl _ _ 50 rfl w1.heap.size 9 i0 (.string ⟨#[]⟩) 1 16 Tryz.underlying50 hi hz0 hz1 hz2 rfl (by decide) _ _ _ rfl HO0.out ⟨bx, ox, none⟩ T.length cap (strs T) rfl (by rw [strs_length, Nat.mul_one]) HC1.out strs_one (by unfold maxLen; omega) (by omega) (by simp) ?_))
      intro v' w2 hown hg _
      have hb2 := ((Below.refl w1.heap.size w1).alloc (Nat.le_refl _) (.cells #[.string X] 9)).grown hg (by simp) (by intro k hk; simp [Value.ownBlock] at hk; omega)
      have hb2' := box_then hb1' hb2
      have hW2 := below_first hb2'
      have c2 := box_cells hb2' 2
      simp at c2
      have hcpo := hown
      obtain ⟨g2, cap2, hv2⟩ := Joins.ownsRow_form hown (by omega)
      subst hv2
      have hc2 := owns_cap hown (by omega)
      have hS2 : Strs w2 (.slice (some ⟨g2, 0, none⟩) (1 + T.length) cap2) (X.data.toList :: T) := Strs.of_owns (ls := X.data.toList :: T) hown
      have hjl : (joinAt 32 (X.data.toList :: T)).length ≤ 400 := by
        have := joinAt_len 32 60 (X.data.toList :: T) HSm.out
        rw [List.length_cons] at this
        have h5 : (T.length + 1) * (60 + 1) ≤ 5 * 61 := Nat.mul_le_mul (by omega) (by omega)
        omega
      have HJ := Lib.hid (joinB_any _ _ w2 hS2 (by simp) (by intro a n c h; injection h with h1 h2 h3; omega) (by omega) (by rw [List.length_cons]; omega))
      obtain ⟨J, hJ⟩ : ∃ J, S (joinAt 32 (X.data.toList :: T)) = J := ⟨_, rfl⟩
      have HJd : Hid (J.data.toList = joinAt 32 (X.data.toList :: T)) := by show _ = _; rw [← hJ]; rfl
      have hJs : J.size ≤ 400 := by rw [← hJ, S_size]; exact hjl
      rw [hJ] at HJ
      clear hg hown hS2 hJ c0 c1 hjl hcpo
      go_wp2_with fail
      refine HJ.out.mono ?_
      rintro e w3 ⟨rfl, hb3⟩
      have hb3' := box_then hb2' hb3
      have hW3 := below_first hb3'
      have c2 := box_cells hb3' 2
      simp at c2
      have hsz : (J ++ (⟨#[10]⟩ ++ B)).size = J.size + (1 + B.size) := by rw [ByteArray.size_append, ByteArray.size_append]; rfl
      have ht : Hid (cmdText ⟨X.data.toList, T, B.data.toList⟩ = (J ++ (⟨#[10]⟩ ++ B)).data.toList) := by
        show _ = _
        unfold cmdText
        simp only
        rw [HBd.out, if_pos rfl, ← HJd.out]
        simp [ByteArray.data_append]
      by_cases h8 : 8000 < J.size + (1 + B.size)
      · have q8 : decide ((8000 : Int) < (J.size : Int) + (1 + (B.size : Int))) = true := by simp; omega
        have HF : Hid (cshow ⟨X.data.toList, T, B.data.toList⟩ = ([], 3)) := by
          show _ = _
          rw [cshow_yes HR.out (.inl HBd.out), ht.out, if_pos (by rw [← Lib.size_eq, hsz]; exact h8)]
        clear hsz h8
        go_wp2_with fail
        go_ret2
        exact cshow_as (A := ⟨#[]⟩) HF.out hW3
      · have q8 : decide ((8000 : Int) < (J.size : Int) + (1 + (B.size : Int))) = false := by simp; omega
        have HF : Hid (cshow ⟨X.data.toList, T, B.data.toList⟩ = ((J ++ (⟨#[10]⟩ ++ B)).data.toList, 0)) := by
          show _ = _
          rw [cshow_yes HR.out (.inl HBd.out), ht.out, if_neg (by rw [← Lib.size_eq, hsz]; exact h8)]
        clear hsz h8
        go_wp2_with fail
        go_ret2
        exact cshow_as HF.out hW3
end Go.Proofs.YtjjpngdbbjeaiaaGreatDoor
