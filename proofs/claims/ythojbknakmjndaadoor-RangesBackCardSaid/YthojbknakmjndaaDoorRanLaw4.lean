/- RangesBack: the walk. -/
import Derived.Test.YthojbknakmjndaaDoorRanLaw3
import Derived.Test.YthojbknakmjndaaDoorRanAwake
import Derived.Test.YthojbknakmjndaaDoorRanSame
namespace Go.Proofs.YthojbknakmjndaaDoor
open Go.RowKit
theorem showR_len {bs : List Bnd} (h : rangeOk bs = true) : (showR bs).length ≤ 2000 := by
  unfold showR
  split
  · decide
  · have ha := rangeOk_all h
    unfold showB
    have := joinAt_len 32 60 (bs.map Bnd.show) (fun p hp => by
      rw [List.mem_map] at hp
      obtain ⟨b, hb, rfl⟩ := hp
      exact show_len (ha.2 b hb))
    rw [List.length_map] at this
    omega
theorem ok_sz {bs : List Bnd} (h : rangeOk bs = true) : ∀ x ∈ bs, x.v.p.size ≤ 9223372036854775807 := by
  intro x hx
  have h1 := (rangeOk_all h).2 x hx
  unfold Bnd.ok at h1
  rw [Bool.and_eq_true] at h1
  have := verOk_bounds h1.2
  rw [Lib.size_eq]; omega
theorem rparse_as (s : ByteArray) (bs : List Bnd) (er : Int) (h : RParseIs s.data.toList bs er) (hl : s.size ≤ 100000) (w : World) (hE : Env w) :
    Calls Tryd.prog 8 #[.string s] w fun e w' => ∃ a cap, e = .returned (.tuple #[.slice a bs.length cap, .int .i64 er]) ∧ Bnds w' (.slice a bs.length cap) bs ∧ Below w.heap.size w w' := by
  refine (rparse_any s w hE hl).mono ?_
  rintro e w' ⟨x, bs', er', he, hx, ⟨a, cap, rfl⟩, hp, hb⟩
  obtain ⟨rfl, rfl⟩ := RParseIs.uniq hp h
  exact ⟨a, cap, he, hx, hb⟩
theorem same_self (v u : Value) (xs : List Bnd) (w : World) (hv : Bnds w v xs) (hlen : ∃ a cap, v = .slice a xs.length cap) (hu : Bnds w u xs) (hlen' : ∃ a cap, u = .slice a xs.length cap) (hn : xs.length ≤ 100000) :
    Calls Tryd.prog 9 #[v, u] w fun e w' => e = .returned (.bool true) ∧ Below w.heap.size w w' := by
  have := same_any v u xs xs w hv hlen hu hlen' hn
  rw [show sameB xs xs = true from decide_eq_true rfl] at this
  exact this
set_option maxRecDepth 100000 in
set_option maxHeartbeats 4000000 in
theorem rangesBack_walk (v : Value) (bs : List Bnd) (s : ByteArray) (w : World) (hE : Env w) (hv : Bnds w v bs) (hlen : ∃ a cap, v = .slice a bs.length cap) (hp : ∀ x ∈ bs, x.v.p.size ≤ 9223372036854775807) :
    Calls Tryd.prog 3 #[v, .string s] w fun e w' => e = .returned (.bool true) ∧ Below w.heap.size w w' := by
  have HE := Lib.hid hE
  clear hE
  by_cases hbig : 5000 < s.size
  · have q : decide (5000 < (s.size : Int)) = true := by simp; omega
    clear hbig hv hlen hp
    go_enter Tryd.func3, Tryd.ntmps3
    go_wp2_with fail
    refine (awake_any _ HE.out).mono ?_
    rintro e w9 ⟨rfl, hb9⟩
    go_wp2_with fail
    go_ret
    exact ⟨rfl, hb9⟩
  have q : decide (5000 < (s.size : Int)) = false := by simp; omega
  have hs5 : s.size ≤ 5000 := by omega
  obtain ⟨r, hr⟩ : ∃ r, rangeErr bs = r := ⟨_, rfl⟩
  have HCk := Lib.hid (rcheck_as v bs r hr w hv hlen HE.out hp)
  have HR := Lib.hid hr
  have HV := Lib.hid hv
  have HP := Lib.hid hp
  obtain ⟨va, vcap, rfl⟩ := hlen
  clear hbig hr hv hp
  go_enter Tryd.func3, Tryd.ntmps3
  go_wp2_with fail
  refine HCk.out.mono ?_
  rintro e w1 ⟨rfl, hb1⟩
  have HV := Lib.hid (HV.out.below hb1 (Nat.le_refl _))
  clear HCk
  go_upto_if 21 with fail
  go_cut [5] (fun _ wx => Below w.heap.size w wx)
  case first =>
    by_cases h0 : r = 0
    · subst h0
      have HOk : Hid (rangeOk bs = true) := by
        have h := HR.out
        unfold rangeErr at h
        show _ = _
        cases h2 : rangeOk bs
        · rw [h2] at h; cases h
        · rfl
      obtain ⟨T, hT⟩ : ∃ T, S (showR bs) = T := ⟨_, rfl⟩
      have HSh := fun w hv hE => rshow_yes (.slice va bs.length vcap) bs w hv ⟨_, _, rfl⟩ hE HP.out HOk.out
      rw [hT] at HSh
      have HSh := Lib.hid HSh
      have HPa : Hid (RParseIs T.data.toList bs 0) := by show RParseIs _ _ _; rw [← hT, S_data]; exact back_show HOk.out
      have HTz : Hid (T.size ≤ 100000) := by have := showR_len HOk.out; show _ ≤ _; rw [← hT, S_size]; omega
      clear hT
      go_wp2_with fail
      refine (HSh.out _ HV.out (HE.out.below hb1)).mono ?_
      rintro e w2 ⟨rfl, hb2⟩
      have HV := Lib.hid (HV.out.below hb2 (Nat.le_refl _))
      have hb2 := below_then hb1 hb2
      go_wp2_with fail
      refine (rparse_as T bs 0 HPa.out HTz.out _ (HE.out.below hb2)).mono ?_
      rintro e w3 ⟨ma, mcap, rfl, hm, hb3⟩
      have HV := Lib.hid (HV.out.below hb3 (Nat.le_refl _))
      have HM := Lib.hid hm
      have hb3 := below_then hb2 hb3
      clear hm
      go_wp2_with fail
      refine (same_self _ _ bs _ HM.out ⟨_, _, rfl⟩ HV.out ⟨_, _, rfl⟩ (by have := (rangeOk_all HOk.out).1; omega)).mono ?_
      rintro e w4 ⟨rfl, hb4⟩
      have hb4 := below_then hb3 hb4
      go_wp2_with fail
      go_meet
      exact hb4
    · have qr : (r == 0) = false := by simpa using h0
      clear h0
      go_wp2_with fail
      go_meet
      exact hb1
  case rest =>
    have hWc := hcut
    clear hcut HV hb1 HP HR
    go_wp2_with fail
    refine (rparse_any s _ (HE.out.below hWc) (by omega)).mono ?_
    rintro e w2 ⟨x, bs', er, rfl, hx, ⟨xa, xcap, rfl⟩, hpi, hb2⟩
    have hb2 := below_then hWc hb2
    by_cases he : er = 0
    case neg =>
      have qe : (er != 0) = true := by simpa using he
      have qe' : decide (er = 0) = false := decide_eq_false he
      have hnil : bs' = [] := by
        rcases hpi with ⟨h, _⟩ | ⟨_, h, _⟩
        · exact absurd h he
        · exact h
      subst hnil
      clear hpi he hx
      rw [show ([] : List Bnd).length = 0 from rfl]
      go_wp2_with fail
      refine (awake_any _ (HE.out.below hb2)).mono ?_
      rintro e w9 ⟨rfl, hb9⟩
      go_wp2_with fail
      go_ret
      exact ⟨rfl, below_then hb2 hb9⟩
    subst he
    have hri : RangeIs s.data.toList bs' := by
      rcases hpi with ⟨_, h⟩ | ⟨h, _⟩
      · exact h
      · cases h
    have hbr := back_read hri
    have HOk := Lib.hid hbr.1
    have HX := Lib.hid hx
    obtain ⟨T, hT⟩ : ∃ T, S (showR bs') = T := ⟨_, rfl⟩
    have HSh := fun w hv hE => rshow_yes (.slice xa bs'.length xcap) bs' w hv ⟨_, _, rfl⟩ hE (ok_sz HOk.out) HOk.out
    rw [hT] at HSh
    have HSh := Lib.hid HSh
    have HPa : Hid (RParseIs T.data.toList bs' 0) := by show RParseIs _ _ _; rw [← hT, S_data]; exact back_show HOk.out
    have HTz : Hid (T.size ≤ 100000) := by have := showR_len HOk.out; show _ ≤ _; rw [← hT, S_size]; omega
    have hend : (T.toList == s.toList) = true ∨ ((T.toList == s.toList) = false ∧ ∃ h : 0 < s.size, s[0] = 94) := by
      cases hq : (T.toList == s.toList)
      · right
        refine ⟨rfl, ?_⟩
        rcases hbr.2 with h | h
        · exfalso
          rw [beq_eq_false_iff_ne] at hq
          apply hq
          rw [Lib.toList_data, Lib.toList_data, ← hT, S_data, h]
        · have h0 : 0 < s.size := by
            rw [Lib.size_eq]
            cases hl : s.data.toList with
            | nil => rw [hl] at h; cases h
            | cons => simp
          refine ⟨h0, ?_⟩
          have := byte_head s h0
          rw [this] at h
          simpa using h
      · left; rfl
    clear hT hbr hri hpi hx
    go_wp2_with fail
    refine (HSh.out _ HX.out (HE.out.below hb2)).mono ?_
    rintro e w3 ⟨rfl, hb3⟩
    have HX := Lib.hid (HX.out.below hb3 (Nat.le_refl _))
    have hb3 := below_then hb2 hb3
    go_wp2_with fail
    refine (rparse_as T bs' 0 HPa.out HTz.out _ (HE.out.below hb3)).mono ?_
    rintro e w4 ⟨ka, kcap, rfl, hk, hb4⟩
    have HX := Lib.hid (HX.out.below hb4 (Nat.le_refl _))
    have HK := Lib.hid hk
    have hb4 := below_then hb3 hb4
    clear hk
    go_wp2_with fail
    refine (same_self _ _ bs' _ HK.out ⟨_, _, rfl⟩ HX.out ⟨_, _, rfl⟩ (by have := (rangeOk_all HOk.out).1; omega)).mono ?_
    rintro e w5 ⟨rfl, hb5⟩
    have hb5 := below_then hb4 hb5
    rcases hend with qT | ⟨qT, hs0, hx⟩
    · go_wp2_with fail
      refine (awake_any _ (HE.out.below hb5)).mono ?_
      rintro e w9 ⟨rfl, hb9⟩
      go_wp2_with fail
      go_ret
      exact ⟨rfl, below_then hb5 hb9⟩
    · have hsi : (0 : Int) < (s.size : Int) := by omega
      obtain ⟨x, hxe⟩ : ∃ x, s[0] = x := ⟨_, rfl⟩
      rw [hxe] at hx
      have qx : ((x.toNat : Int) == 94) = true := by rw [hx]; decide
      clear hx
      go_wp2_with fail
      refine (awake_any _ (HE.out.below hb5)).mono ?_
      rintro e w9 ⟨rfl, hb9⟩
      go_wp2_with fail
      go_ret
      exact ⟨rfl, below_then hb5 hb9⟩
end Go.Proofs.YthojbknakmjndaaDoor
