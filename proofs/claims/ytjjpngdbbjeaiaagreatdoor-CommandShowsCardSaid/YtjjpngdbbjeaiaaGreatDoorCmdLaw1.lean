/- CommandParses, CommandForms: the walks. -/
import Derived.Test.YtjjpngdbbjeaiaaGreatDoorCmdAwake
import Derived.Test.YtjjpngdbbjeaiaaGreatDoorCmdRef3
import Derived.Test.YtjjpngdbbjeaiaaGreatDoorCmdRef4
namespace Go
theorem cparse_small {l : List UInt8} {c : Cmd} (h : cparse l = (c, 0)) : rightB c.word c.args = true ∧ c.body.length ≤ 8000 := by
  unfold cparse at h
  split at h
  · exact absurd (congrArg Prod.snd h) (by simp)
  · rename_i hl
    split at h
    · rename_i hr
      have hc := congrArg Prod.fst h
      simp only at hc
      subst hc
      rw [Bool.and_eq_true] at hr
      exact ⟨hr.1, by have := tailAt_len 10 l; simp only; omega⟩
    · exact absurd (congrArg Prod.snd h) (by simp)
end Go
namespace Go.Proofs.YtjjpngdbbjeaiaaGreatDoor
open Go.RowKit
theorem cparse_fix (s X B : ByteArray) (T : List (List UInt8)) (er : Int) (h : cparse s.data.toList = (⟨X.data.toList, T, B.data.toList⟩, er)) (w : World) (hE : Env w) :
    Calls Tryz.prog 25 #[.string s] w fun e w' => ∃ a cap, e = .returned (.tuple #[.agg #[.string X, .slice a T.length cap, .string B], .int .i64 er]) ∧ Strs w' (.slice a T.length cap) T ∧ Below w.heap.size w w' := by
  refine (cparse_any s w hE).mono ?_
  rintro e w' ⟨v, he, hv, ⟨a, cap, rfl⟩, hb⟩
  rw [h] at he hv
  exact ⟨a, cap, he, hv, hb⟩
theorem rcparse_fix (s X B : ByteArray) (T : List (List UInt8)) (er : Int) (h : cparse s.data.toList = (⟨X.data.toList, T, B.data.toList⟩, er)) (w : World) :
    Calls Tryz.prog 26 #[.string s] w fun e w' => ∃ a cap, e = .returned (.tuple #[.agg #[.string X, .slice a T.length cap, .string B], .int .i64 er]) ∧ Strs w' (.slice a T.length cap) T ∧ Below w.heap.size w w' := by
  refine (rcparse_any s w).mono ?_
  rintro e w' ⟨v, he, hv, ⟨a, cap, rfl⟩, hb⟩
  rw [h] at he hv
  exact ⟨a, cap, he, hv, hb⟩
theorem cshow_fix (X B A : ByteArray) (T : List (List UInt8)) (er : Int) (h : cshow ⟨X.data.toList, T, B.data.toList⟩ = (A.data.toList, er)) (v : Value) (w : World) (hE : Env w) (hv : Strs w v T) (hlen : ∃ a cap, v = .slice a T.length cap) (hs : ∀ l ∈ T, l.length < 4294967281) (hB : rightB X.data.toList T = true → B.size ≤ 4294967281) :
    Calls Tryz.prog 29 #[.agg #[.string X, v, .string B]] w fun e w' => e = .returned (.tuple #[.string A, .int .i64 er]) ∧ Below w.heap.size w w' := by
  refine (cshow_any X v T B w hE hv hlen hs hB).mono ?_
  rintro e w' ⟨he, hb⟩
  rw [h] at he
  exact ⟨he, hb⟩
theorem cmd_vars (l : List UInt8) : ∃ (X B : ByteArray) (T : List (List UInt8)) (er : Int), cparse l = (⟨X.data.toList, T, B.data.toList⟩, er) :=
  ⟨S (cparse l).1.word, S (cparse l).1.body, (cparse l).1.args, (cparse l).2, rfl⟩
set_option maxRecDepth 100000 in
set_option maxHeartbeats 1000000 in
theorem commandParses_walk (s : ByteArray) (w : World) (hE : Env w) :
    Calls Tryz.prog 8 #[.string s] w fun e w' => e = .returned (.bool true) ∧ Below w.heap.size w w' := by
  have HE := Lib.hid hE
  obtain ⟨X, B, T, er, h⟩ := cmd_vars s.data.toList
  have H1 := Lib.hid (cparse_fix s X B T er h)
  have H2 := Lib.hid (rcparse_fix s X B T er h)
  have q : (er == er) = true := beq_self_eq_true _
  clear hE h
  go_enter Tryz.func8, Tryz.ntmps8
  go_wp2_with fail
  refine (H1.out _ HE.out).mono ?_
  rintro e w1 ⟨a, cap, rfl, hv1, hb1⟩
  have hb2 := hb1.alloc hb1.size (.cells #[.string X, .slice a T.length cap, .string B] 52)
  have HV1 := Lib.hid (hv1.below ((Below.refl w1.heap.size w1).alloc (Nat.le_refl _) (.cells #[.string X, .slice a T.length cap, .string B] 52)) (Nat.le_refl _))
  clear hv1
  go_wp2_with fail
  refine (H2.out _).mono ?_
  rintro e w3 ⟨a', cap', rfl, hv3, hb3⟩
  have hx3 := box_of hb3
  have hb4 := below_then hb2 hb3
  have c0 := box_cells hx3 0
  have c1 := box_cells hx3 1
  have c2 := box_cells hx3 2
  simp at c0 c1 c2
  have hz := cell_lt c0
  have hb5 := hb4.alloc hb4.size (.cells #[.string X, .slice a' T.length cap', .string B] 52)
  have hb35 := (Below.refl w3.heap.size w3).alloc (Nat.le_refl _) (.cells #[.string X, .slice a' T.length cap', .string B] 52)
  have HV3 := Lib.hid (hv3.below hb35 (Nat.le_refl _))
  have HV1 := Lib.hid (HV1.out.below (below_then hb3 hb35) (Nat.le_refl _))
  clear hv3
  go_wp2_with fail
  refine (csame_self X _ _ T B _ HV1.out ⟨_, _, rfl⟩ HV3.out ⟨_, _, rfl⟩).mono ?_
  rintro e w6 ⟨rfl, hb6⟩
  have hb7 := below_then hb5 hb6
  clear c0 c1 c2
  go_wp2_with fail
  refine (awake_any _ (HE.out.below hb7)).mono ?_
  rintro e w9 ⟨rfl, hb9⟩
  go_wp2_with fail
  go_ret
  exact ⟨rfl, below_then hb7 hb9⟩
set_option maxRecDepth 100000 in
set_option maxHeartbeats 1000000 in
theorem commandForms_walk (s : ByteArray) (w : World) (hE : Env w) :
    Calls Tryz.prog 12 #[.string s] w fun e w' => e = .returned (.bool true) ∧ Below w.heap.size w w' := by
  have HE := Lib.hid hE
  clear hE
  rcases cparse_cases s.data.toList with ⟨c, hc, hl⟩ | hc
  · have hr := cparse_small hc
    have hsm := right_small hr.1
    obtain ⟨X, hX⟩ : ∃ X : ByteArray, X.data.toList = c.word := ⟨S c.word, rfl⟩
    obtain ⟨B, hB⟩ : ∃ B : ByteArray, B.data.toList = c.body := ⟨S c.body, rfl⟩
    obtain ⟨wd, T, bd⟩ := c
    simp only at hX hB hr hsm
    subst hX hB
    have H1 := Lib.hid (cparse_fix s X B T 0 hc)
    have H2 := Lib.hid (cshow_fix X B s T 0 (cmd_forms hc))
    have HTs : Hid (∀ l ∈ T, l.length < 4294967281) := fun l hl => by have := hsm.2.2.2 l (by simp [hl]); omega
    have HBs : Hid (rightB X.data.toList T = true → B.size ≤ 4294967281) := fun _ => by rw [Lib.size_eq]; omega
    have q : (s.toList == s.toList) = true := beq_self_eq_true _
    clear hc hl hr hsm
    go_enter Tryz.func12, Tryz.ntmps12
    go_wp2_with fail
    refine (H1.out _ HE.out).mono ?_
    rintro e w1 ⟨a, cap, rfl, hv1, hb1⟩
    have hb2 := hb1.alloc hb1.size (.cells #[.string X, .slice a T.length cap, .string B] 52)
    have HV1 := Lib.hid (hv1.below ((Below.refl w1.heap.size w1).alloc (Nat.le_refl _) (.cells #[.string X, .slice a T.length cap, .string B] 52)) (Nat.le_refl _))
    clear hv1
    go_wp2_with fail
    refine (H2.out _ _ (HE.out.below hb2) HV1.out ⟨_, _, rfl⟩ HTs.out HBs.out).mono ?_
    rintro e w3 ⟨rfl, hb3⟩
    have hb4 := below_then hb2 hb3
    go_wp2_with fail
    refine (awake_any _ (HE.out.below hb4)).mono ?_
    rintro e w9 ⟨rfl, hb9⟩
    go_wp2_with fail
    go_ret
    exact ⟨rfl, below_then hb4 hb9⟩
  · have key : ∃ er : Int, (er = 3 ∧ 8000 < s.size ∨ er = 270 ∧ s.size ≤ 8000) ∧ cparse s.data.toList = (Cmd.zero, er) := by
      rcases hc with ⟨h, hl⟩ | ⟨h, hl⟩
      · exact ⟨3, .inl ⟨rfl, by rw [Lib.size_eq]; exact hl⟩, h⟩
      · exact ⟨270, .inr ⟨rfl, by rw [Lib.size_eq]; exact hl⟩, h⟩
    obtain ⟨er, her, hc⟩ := key
    have H1 := Lib.hid (cparse_fix s ⟨#[]⟩ ⟨#[]⟩ [] er hc)
    have q0 : (er != 0) = true := by rcases her with ⟨h, _⟩ | ⟨h, _⟩ <;> rw [h] <;> decide
    obtain ⟨b, hb⟩ : ∃ b, (er == 3) = b := ⟨_, rfl⟩
    have q1 : decide ((8000 : Int) < (s.size : Int)) = b := by
      rw [← hb]
      rcases her with ⟨h, h2⟩ | ⟨h, h2⟩
      · rw [h, decide_eq_true (by omega)]; rfl
      · rw [h, decide_eq_false (by omega)]; rfl
    clear hc her
    cases b
    all_goals
      go_enter Tryz.func12, Tryz.ntmps12
      go_wp2_with fail
      refine (H1.out _ HE.out).mono ?_
      rintro e w1 ⟨a, cap, rfl, hv1, hb1⟩
      rw [show ([] : List (List UInt8)).length = 0 from rfl] at hv1
      rw [show ([] : List (List UInt8)).length = 0 from rfl]
      have hb2 := hb1.alloc hb1.size (.cells #[.string ⟨#[]⟩, .slice a 0 cap, .string ⟨#[]⟩] 52)
      have HV1 := Lib.hid (hv1.below ((Below.refl w1.heap.size w1).alloc (Nat.le_refl _) (.cells #[.string ⟨#[]⟩, .slice a 0 cap, .string ⟨#[]⟩] 52)) (Nat.le_refl _))
      clear hv1
      go_wp2_with fail
      refine (csame_self ⟨#[]⟩ _ _ [] ⟨#[]⟩ _ HV1.out ⟨_, _, rfl⟩ (Strs.nil _) ⟨_, _, rfl⟩).mono ?_
      rintro e w3 ⟨rfl, hb3⟩
      have hb4 := below_then hb2 hb3
      go_wp2_with fail
      refine (awake_any _ (HE.out.below hb4)).mono ?_
      rintro e w9 ⟨rfl, hb9⟩
      go_wp2_with fail
      go_ret
      exact ⟨rfl, below_then hb4 hb9⟩
end Go.Proofs.YtjjpngdbbjeaiaaGreatDoor
