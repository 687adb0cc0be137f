/- CommandShows, CommandBack: the walks. -/
import Derived.Test.YtjjpngdbbjeaiaaGreatDoorCmdLaw1
namespace Go.Proofs.YtjjpngdbbjeaiaaGreatDoor
open Go.RowKit
theorem rcshow_fix (X B A : ByteArray) (T : List (List UInt8)) (er : Int) (h : cshow ⟨X.data.toList, T, B.data.toList⟩ = (A.data.toList, er)) (v : Value) (w : World) (hv : Strs w v T) (hlen : ∃ a cap, v = .slice a T.length cap) (hs : ∀ l ∈ T, l.length ≤ 9223372036854775807) (hB : rightB X.data.toList T = true → B.size ≤ 4294967281) :
    Calls Tryz.prog 30 #[.agg #[.string X, v, .string B]] w fun e w' => e = .returned (.tuple #[.string A, .int .i64 er]) ∧ Below w.heap.size w w' := by
  refine (rcshow_any X v T B w hv hlen hs hB).mono ?_
  rintro e w' ⟨he, hb⟩
  rw [h] at he
  exact ⟨he, hb⟩
theorem show_vars (c : Cmd) : ∃ (A : ByteArray) (er : Int), cshow c = (A.data.toList, er) := ⟨S (cshow c).1, (cshow c).2, rfl⟩
def ShwRel (T : List (List UInt8)) (B : ByteArray) (w : World) (o : Obj) (n i : Value) (wr : World) : Prop :=
  ∃ k m : Nat, k ≤ T.length ∧ i = .int .i64 (k : Int) ∧ n = .int .i64 (m : Int) ∧ m ≤ 100000 ∧ min B.size 100000 + k ≤ m ∧ (∀ j, j < k → (T.getD j []).length ≤ 99999) ∧ Below (w.heap.size + 1) (w.alloc o) wr
set_option maxRecDepth 100000 in
set_option maxHeartbeats 1000000 in
theorem commandShows_walk (X : ByteArray) (v : Value) (T : List (List UInt8)) (B : ByteArray) (w : World) (hE : Env w) (hv : Strs w v T) (hlen : ∃ a cap, v = .slice a T.length cap) (hBm : B.size ≤ 9223372036854775807) (hTm : ∀ l ∈ T, l.length ≤ 9223372036854775807) :
    Calls Tryz.prog 9 #[.agg #[.string X, v, .string B]] w fun e w' => e = .returned (.bool true) ∧ Below w.heap.size w w' := by
  have HE := Lib.hid hE
  have HV := Lib.hid hv
  have HTm := Lib.hid hTm
  have hn := hv.cases.1
  unfold maxLen at hn
  obtain ⟨a, cap, rfl⟩ := hlen
  have HC := Lib.hid hv.cases.2
  clear hE hv hTm
  have hbmin : ∃ bm : Nat, min (B.size : Int) 100000 = (bm : Int) ∧ bm = min B.size 100000 := ⟨min B.size 100000, by omega, rfl⟩
  obtain ⟨bm, hbm, hbm2⟩ := hbmin
  have HB2 := Lib.hid hbm2
  have hbm3 : bm ≤ 100000 := by omega
  have hW := (Below.refl w.heap.size w).alloc (Nat.le_refl _) (.cells #[.string X, .slice a T.length cap, .string B] 52)
  clear hbm2
  go_enter Tryz.func9, Tryz.ntmps9
  go_wp2_with fail
  go_loopw [3, 4] (fun n i wr => ShwRel T B w (.cells #[.string X, .slice a T.length cap, .string B] 52) n i wr) (fun _ i _ => T.length - (intOf i).toNat)
  case atStart => exact ⟨0, bm, Nat.zero_le _, rfl, rfl, hbm3, by rw [← HB2.out]; omega, fun j hj => absurd hj (by omega), box_of (Below.refl _ _)⟩
  case round =>
    obtain ⟨k, m, hk, rfl, rfl, hm, hbk, hall, hb⟩ := hrel
    have HA := Lib.hid hall
    have HBk := Lib.hid hbk
    have c0 := box_cells hb 0
    have c1 := box_cells hb 1
    have c2 := box_cells hb 2
    simp at c0 c1 c2
    have hbW := below_first hb
    clear hall hbk hbm
    by_cases hlt : k < T.length
    · have i0 : (0 : Int) ≤ (k : Int) := by omega
      have i1 : (k : Int) < (T.length : Int) := by omega
      rcases HC.out with ⟨_, _, _, h0⟩ | ⟨bx, ox, cx, hva, _, hbx, hcx⟩
      · rw [h0] at hlt; cases hlt
      have ha : a = some ⟨bx, ox, none⟩ := by injection hva
      subst ha
      have d0 := (hbW.cell (p := ⟨bx, ox + k, none⟩) hbx).trans (hcx k hlt)
      obtain ⟨A, hA⟩ : ∃ A, S T[k] = A := ⟨_, rfl⟩
      have HAz : Hid (A.size = (T.getD k []).length) := by show _ = _; rw [← hA, S_size, List.getD_eq_getElem?_getD, List.getElem?_eq_getElem hlt]; rfl
      rw [hA] at d0
      obtain ⟨am, ham, ham2⟩ : ∃ am : Nat, min (A.size : Int) 100000 = (am : Int) ∧ am = min A.size 100000 := ⟨min A.size 100000, by omega, rfl⟩
      have HA2 := Lib.hid ham2
      have ham3 : am ≤ 100000 := by omega
      clear hA hva hcx HC ham2
      by_cases hbig : 100000 < m + (am + 1)
      · have q : decide ((100000 : Int) < (m : Int) + ((am : Int) + 1)) = true := by simp; omega
        clear hbig
        go_wp2_with fail
        refine (awake_any _ (HE.out.below hbW)).mono ?_
        rintro e w9 ⟨rfl, hb9⟩
        go_wp2_with fail
        go_ret
        exact ⟨rfl, below_then hbW hb9⟩
      · have q : decide ((100000 : Int) < (m : Int) + ((am : Int) + 1)) = false := by simp; omega
        have HNx : Hid (m + (am + 1) ≤ 100000) := by show _ ≤ _; omega
        clear hbig
        go_wp2_with fail
        go_roundw
        case rel =>
          refine ⟨k + 1, m + (am + 1), hlt, by go_num, by go_num, HNx.out, by have := HBk.out; omega, fun j hj => ?_, hb⟩
          rcases Nat.lt_or_ge j k with h1 | h1
          · exact HA.out j h1
          · obtain rfl : j = k := by omega
            rw [← HAz.out]
            have h2 := HA2.out
            have h3 := HNx.out
            omega
        case measure => simp [intOf]; omega
    · have q3 : decide (k < T.length) = false := decide_eq_false hlt
      have HTs : Hid (∀ l ∈ T, l.length ≤ 99999) := by
        intro l hl
        obtain ⟨j, hj, rfl⟩ := List.getElem_of_mem hl
        have := HA.out j (by omega)
        rw [List.getD_eq_getElem?_getD, List.getElem?_eq_getElem hj] at this
        exact this
      have HBz : Hid (rightB X.data.toList T = true → B.size ≤ 4294967281) := by
        intro h
        have h1 := (right_small h).2.1
        have := HBk.out
        omega
      obtain ⟨A, er, hsh⟩ := show_vars ⟨X.data.toList, T, B.data.toList⟩
      have H1 := Lib.hid (cshow_fix X B A T er hsh)
      have H2 := Lib.hid (rcshow_fix X B A T er hsh)
      have q4 : (A.toList == A.toList) = true := beq_self_eq_true _
      have q5 : (er == er) = true := beq_self_eq_true _
      have HV2 := Lib.hid (HV.out.below hbW (Nat.le_refl _))
      have HE2 := Lib.hid (HE.out.below hbW)
      clear hlt hsh
      go_wp2_with fail
      refine (H1.out _ _ HE2.out HV2.out ⟨_, _, rfl⟩ (fun l hl => by have := HTs.out l hl; omega) HBz.out).mono ?_
      rintro e w3 ⟨rfl, hb3⟩
      have hx3 := box_then hb hb3
      have hbY := below_first hx3
      have c0 := box_cells hx3 0
      have c1 := box_cells hx3 1
      have c2 := box_cells hx3 2
      simp at c0 c1 c2
      have HV3 := Lib.hid (HV2.out.below hb3 (Nat.le_refl _))
      go_wp2_with fail
      refine (H2.out _ _ HV3.out ⟨_, _, rfl⟩ (fun l hl => by have := HTs.out l hl; omega) HBz.out).mono ?_
      rintro e w5 ⟨rfl, hb5⟩
      have hbZ := below_then hbY hb5
      go_wp2_with fail
      refine (awake_any _ (HE.out.below hbZ)).mono ?_
      rintro e w9 ⟨rfl, hb9⟩
      go_wp2_with fail
      go_ret
      exact ⟨rfl, below_then hbZ hb9⟩
set_option maxRecDepth 100000 in
set_option maxHeartbeats 1000000 in
theorem commandBack_walk (X : ByteArray) (v : Value) (T : List (List UInt8)) (B : ByteArray) (w : World) (hE : Env w) (hv : Strs w v T) (hlen : ∃ a cap, v = .slice a T.length cap) (hBm : B.size ≤ 4294967281) (hTm : ∀ l ∈ T, l.length < 4294967281) :
    Calls Tryz.prog 11 #[.agg #[.string X, v, .string B]] w fun e w' => e = .returned (.bool true) ∧ Below w.heap.size w w' := by
  have HE := Lib.hid hE
  have HV := Lib.hid hv
  have HTm := Lib.hid hTm
  have HBm : Hid (rightB X.data.toList T = true → B.size ≤ 4294967281) := fun _ => hBm
  have hn := hv.cases.1
  unfold maxLen at hn
  obtain ⟨a, cap, rfl⟩ := hlen
  have hW := (Below.refl w.heap.size w).alloc (Nat.le_refl _) (.cells #[.string X, .slice a T.length cap, .string B] 52)
  clear hE hv hTm hBm
  by_cases hbig : 20 < T.length
  · have q : decide ((20 : Int) < (T.length : Int)) = true := by simp; omega
    clear hbig
    go_enter Tryz.func11, Tryz.ntmps11
    go_wp2_with fail
    refine (awake_any _ (HE.out.below hW)).mono ?_
    rintro e w9 ⟨rfl, hb9⟩
    go_wp2_with fail
    go_ret
    exact ⟨rfl, below_then hW hb9⟩
  have q : decide ((20 : Int) < (T.length : Int)) = false := by simp; omega
  clear hbig
  rcases cshow_cases ⟨X.data.toList, T, B.data.toList⟩ with ⟨h0, h1, h2, h3, h4⟩ | hno
  · obtain ⟨A, hA⟩ : ∃ A : ByteArray, A.data.toList = cmdText ⟨X.data.toList, T, B.data.toList⟩ := ⟨S _, rfl⟩
    have hsh : cshow ⟨X.data.toList, T, B.data.toList⟩ = (A.data.toList, 0) := by rw [hA, ← h1, ← h0]
    have hpa : cparse A.data.toList = (⟨X.data.toList, T, B.data.toList⟩, 0) := by rw [hA]; exact cmd_back h2 h3 h4
    have H1 := Lib.hid (cshow_fix X B A T 0 hsh)
    have H2 := Lib.hid (cparse_fix A X B T 0 hpa)
    clear h0 h1 h2 h3 h4 hA hsh hpa
    go_enter Tryz.func11, Tryz.ntmps11
    go_wp2_with fail
    refine (H1.out _ _ (HE.out.below hW) (HV.out.below hW (Nat.le_refl _)) ⟨_, _, rfl⟩ HTm.out HBm.out).mono ?_
    rintro e w3 ⟨rfl, hb3⟩
    have hx3 := box_of hb3
    have hb4 := below_then hW hb3
    go_wp2_with fail
    refine (H2.out _ (HE.out.below hb4)).mono ?_
    rintro e w5 ⟨a', cap', rfl, hv5, hb5⟩
    have hx5 := box_then hx3 hb5
    have c0 := box_cells hx5 0
    have c1 := box_cells hx5 1
    have c2 := box_cells hx5 2
    simp at c0 c1 c2
    have hz := cell_lt c0
    have hb6 := below_then hb4 hb5
    have hb7 := hb6.alloc hb6.size (.cells #[.string X, .slice a' T.length cap', .string B] 52)
    have HV5 := Lib.hid (hv5.below ((Below.refl w5.heap.size w5).alloc (Nat.le_refl _) (.cells #[.string X, .slice a' T.length cap', .string B] 52)) (Nat.le_refl _))
    have HV7 := Lib.hid (HV.out.below hb7 (Nat.le_refl _))
    clear hv5
    go_wp2_with fail
    refine (csame_self X _ _ T B _ HV7.out ⟨_, _, rfl⟩ HV5.out ⟨_, _, rfl⟩).mono ?_
    rintro e w8 ⟨rfl, hb8⟩
    have hb9 := below_then hb7 hb8
    clear c0 c1 c2
    go_wp2_with fail
    refine (awake_any _ (HE.out.below hb9)).mono ?_
    rintro e w9 ⟨rfl, hbx⟩
    go_wp2_with fail
    go_ret
    exact ⟨rfl, below_then hb9 hbx⟩
  · have key : ∃ er : Int, (er = 3 ∨ er = 270) ∧ cshow ⟨X.data.toList, T, B.data.toList⟩ = ([], er) := by
      rcases hno with h | h
      · exact ⟨3, .inl rfl, h⟩
      · exact ⟨270, .inr rfl, h⟩
    obtain ⟨er, her, hsh⟩ := key
    have H1 := Lib.hid (cshow_fix X B ⟨#[]⟩ T er hsh)
    clear hsh hno
    rcases her with rfl | rfl
    all_goals
      go_enter Tryz.func11, Tryz.ntmps11
      go_wp2_with fail
      refine (H1.out _ _ (HE.out.below hW) (HV.out.below hW (Nat.le_refl _)) ⟨_, _, rfl⟩ HTm.out HBm.out).mono ?_
      rintro e w3 ⟨rfl, hb3⟩
      have hb4 := below_then hW hb3
      go_wp2_with fail
      refine (awake_any _ (HE.out.below hb4)).mono ?_
      rintro e w9 ⟨rfl, hb9⟩
      go_wp2_with fail
      go_ret
      exact ⟨rfl, below_then hb4 hb9⟩
end Go.Proofs.YtjjpngdbbjeaiaaGreatDoor
