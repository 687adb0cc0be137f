/- The reference's commands: kinds, steps, fits, right, has: walks. -/
import Derived.Test.YtjjpngdbbjeaiaaGreatDoorCmdRef1
import Derived.Test.YtjjpngdbbjeaiaaGreatDoorSemRefB
import Derived.Test.YtjjpngdbbjeaiaaGreatDoorLex2
import Derived.Test.YtjjpngdbbjeaiaaGreatDoorCmd3
namespace Go
/-- what the reference's kinds tell -/
def KdIs (word : List UInt8) (n : Nat) (k : ByteArray) (ok : Bool) : Prop := (ok = true ∧ n ≤ k.size ∧ (∀ c ∈ k.data.toList, c = 110 ∨ c = 118 ∨ c = 115) ∧ kindsOf word n = some (k.data.toList.take n)) ∨ (ok = false ∧ kindsOf word n = none)
theorem dec_beq (a b : List UInt8) : decide (a = b) = (a == b) := by
  by_cases h : a = b
  · rw [decide_eq_true h, h]; exact (beq_self_eq_true _).symm
  · rw [decide_eq_false h]; exact (beq_eq_false_iff_ne.2 h).symm
theorem kd_no {word : List UInt8} (n : Nat) (h : ∀ w ∈ [wRegister, wPublish, wYank, wUnyank, wDeprecate, wQuery, wDiff, wResolve, wRecheck], word ≠ w) : kindsOf word n = none := by
  simp only [List.mem_cons, List.not_mem_nil, or_false, forall_eq_or_imp, forall_eq] at h
  obtain ⟨h1, h2, h3, h4, h5, h6, h7, h8, h9⟩ := h
  unfold kindsOf
  rw [if_neg h1, if_neg h2, if_neg (by rintro (h | h | h); exact h3 h; exact h4 h; exact h5 h), if_neg h6, if_neg h7, if_neg h8, if_neg h9]
end Go
namespace Go.Proofs.YtjjpngdbbjeaiaaGreatDoor
open Go.RowKit
theorem byte_head0 (s : ByteArray) (h : 0 < s.size) : s.data.toList = s[0] :: s.data.toList.drop 1 := by
  have hl : 0 < s.data.toList.length := by rw [← Lib.size_eq]; exact h
  have := List.drop_eq_getElem_cons hl
  rw [List.drop_zero] at this
  exact this
theorem kd_wRegister (n : Nat) : KdIs wRegister n ⟨#[110, 110]⟩ (decide (n = 2)) := by
  by_cases h1 : n = 2
  · subst h1; exact .inl ⟨rfl, by decide, by decide, by decide⟩
  · refine .inr ⟨by simp [h1], ?_⟩
    unfold kindsOf; rw [if_pos (show wRegister = wRegister by decide), if_neg h1]
theorem kd_wPublish (n : Nat) : KdIs wPublish n ⟨#[110, 118]⟩ (decide (n = 2)) := by
  by_cases h1 : n = 2
  · subst h1; exact .inl ⟨rfl, by decide, by decide, by decide⟩
  · refine .inr ⟨by simp [h1], ?_⟩
    unfold kindsOf; rw [if_neg (show ¬ (wPublish = wRegister) by decide), if_pos (show wPublish = wPublish by decide), if_neg h1]
theorem kd_wYank (n : Nat) : KdIs wYank n ⟨#[110, 110, 118]⟩ (decide (n = 3)) := by
  by_cases h1 : n = 3
  · subst h1; exact .inl ⟨rfl, by decide, by decide, by decide⟩
  · refine .inr ⟨by simp [h1], ?_⟩
    unfold kindsOf; rw [if_neg (show ¬ (wYank = wRegister) by decide), if_neg (show ¬ (wYank = wPublish) by decide), if_pos (show wYank = wYank ∨ wYank = wUnyank ∨ wYank = wDeprecate by decide), if_neg h1]
theorem kd_wUnyank (n : Nat) : KdIs wUnyank n ⟨#[110, 110, 118]⟩ (decide (n = 3)) := by
  by_cases h1 : n = 3
  · subst h1; exact .inl ⟨rfl, by decide, by decide, by decide⟩
  · refine .inr ⟨by simp [h1], ?_⟩
    unfold kindsOf; rw [if_neg (show ¬ (wUnyank = wRegister) by decide), if_neg (show ¬ (wUnyank = wPublish) by decide), if_pos (show wUnyank = wYank ∨ wUnyank = wUnyank ∨ wUnyank = wDeprecate by decide), if_neg h1]
theorem kd_wDeprecate (n : Nat) : KdIs wDeprecate n ⟨#[110, 110, 118]⟩ (decide (n = 3)) := by
  by_cases h1 : n = 3
  · subst h1; exact .inl ⟨rfl, by decide, by decide, by decide⟩
  · refine .inr ⟨by simp [h1], ?_⟩
    unfold kindsOf; rw [if_neg (show ¬ (wDeprecate = wRegister) by decide), if_neg (show ¬ (wDeprecate = wPublish) by decide), if_pos (show wDeprecate = wYank ∨ wDeprecate = wUnyank ∨ wDeprecate = wDeprecate by decide), if_neg h1]
theorem kd_wQuery (n : Nat) : KdIs wQuery n ⟨#[110, 118]⟩ (decide (n = 1) || decide (n = 2)) := by
  by_cases h1 : n = 1
  · subst h1; exact .inl ⟨rfl, by decide, by decide, by decide⟩
  · by_cases h2 : n = 2
    · subst h2; exact .inl ⟨rfl, by decide, by decide, by decide⟩
    · refine .inr ⟨by simp [h1, h2], ?_⟩
      unfold kindsOf; rw [if_neg (show ¬ (wQuery = wRegister) by decide), if_neg (show ¬ (wQuery = wPublish) by decide), if_neg (show ¬ (wQuery = wYank ∨ wQuery = wUnyank ∨ wQuery = wDeprecate) by decide), if_pos (show wQuery = wQuery by decide), if_neg h1, if_neg h2]
theorem kd_wDiff (n : Nat) : KdIs wDiff n ⟨#[110, 118, 118]⟩ (decide (n = 3)) := by
  by_cases h1 : n = 3
  · subst h1; exact .inl ⟨rfl, by decide, by decide, by decide⟩
  · refine .inr ⟨by simp [h1], ?_⟩
    unfold kindsOf; rw [if_neg (show ¬ (wDiff = wRegister) by decide), if_neg (show ¬ (wDiff = wPublish) by decide), if_neg (show ¬ (wDiff = wYank ∨ wDiff = wUnyank ∨ wDiff = wDeprecate) by decide), if_neg (show ¬ (wDiff = wQuery) by decide), if_pos (show wDiff = wDiff by decide), if_neg h1]
theorem kd_wResolve (n : Nat) : KdIs wResolve n ⟨#[115]⟩ (decide (n = 1)) := by
  by_cases h1 : n = 1
  · subst h1; exact .inl ⟨rfl, by decide, by decide, by decide⟩
  · refine .inr ⟨by simp [h1], ?_⟩
    unfold kindsOf; rw [if_neg (show ¬ (wResolve = wRegister) by decide), if_neg (show ¬ (wResolve = wPublish) by decide), if_neg (show ¬ (wResolve = wYank ∨ wResolve = wUnyank ∨ wResolve = wDeprecate) by decide), if_neg (show ¬ (wResolve = wQuery) by decide), if_neg (show ¬ (wResolve = wDiff) by decide), if_pos (show wResolve = wResolve by decide), if_neg h1]
theorem kd_wRecheck (n : Nat) : KdIs wRecheck n ⟨#[110, 118, 110, 118]⟩ (decide (n = 4)) := by
  by_cases h1 : n = 4
  · subst h1; exact .inl ⟨rfl, by decide, by decide, by decide⟩
  · refine .inr ⟨by simp [h1], ?_⟩
    unfold kindsOf; rw [if_neg (show ¬ (wRecheck = wRegister) by decide), if_neg (show ¬ (wRecheck = wPublish) by decide), if_neg (show ¬ (wRecheck = wYank ∨ wRecheck = wUnyank ∨ wRecheck = wDeprecate) by decide), if_neg (show ¬ (wRecheck = wQuery) by decide), if_neg (show ¬ (wRecheck = wDiff) by decide), if_neg (show ¬ (wRecheck = wResolve) by decide), if_pos (show wRecheck = wRecheck by decide), if_neg h1]
def KindsAs (word : List UInt8) (n : Nat) (w : World) (e : Ending) (w' : World) : Prop := ∃ (k : ByteArray) (ok : Bool), e = .returned (.tuple #[.string k, .bool ok]) ∧ KdIs word n k ok ∧ w = w'
theorem kinds_end {word : List UInt8} {n : Nat} {w w' : World} {k : ByteArray} {ok : Bool} (h : KdIs word n k ok) (hw : w = w') : KindsAs word n w (.returned (.tuple #[.string k, .bool ok])) w' := ⟨k, ok, rfl, h, hw⟩
set_option maxRecDepth 100000 in
set_option maxHeartbeats 2000000 in
theorem kinds_any (word : ByteArray) (n : Nat) (w : World) : Calls Tryz.prog 91 #[.string word, .int .i64 (n : Int)] w (KindsAs word.data.toList n w) := by
  rw [← Lib.toList_data]
  by_cases h0 : word.toList = [114, 101, 103, 105, 115, 116, 101, 114]
  · obtain ⟨b1, hb1⟩ : ∃ x, decide (n = 2) = x := ⟨_, rfl⟩
    have HF : Hid (KdIs word.toList n ⟨#[110, 110]⟩ b1) := by show KdIs _ _ _ _; rw [h0, ← hb1]; exact kd_wRegister n
    have q0 : (word.toList == [114, 101, 103, 105, 115, 116, 101, 114]) = true := by simpa using h0
    have r1 : ((n : Int) == 2) = b1 := by rw [← hb1, Bool.eq_iff_iff]; simp; omega
    clear h0
    go_enter Tryz.func91, Tryz.ntmps91
    go_wp2_with fail
    go_ret2
    exact kinds_end HF.out rfl
  have q0 : (word.toList == [114, 101, 103, 105, 115, 116, 101, 114]) = false := by simpa using h0
  by_cases h1 : word.toList = [112, 117, 98, 108, 105, 115, 104]
  · obtain ⟨b1, hb1⟩ : ∃ x, decide (n = 2) = x := ⟨_, rfl⟩
    have HF : Hid (KdIs word.toList n ⟨#[110, 118]⟩ b1) := by show KdIs _ _ _ _; rw [h1, ← hb1]; exact kd_wPublish n
    have q1 : (word.toList == [112, 117, 98, 108, 105, 115, 104]) = true := by simpa using h1
    have r1 : ((n : Int) == 2) = b1 := by rw [← hb1, Bool.eq_iff_iff]; simp; omega
    clear h1
    go_enter Tryz.func91, Tryz.ntmps91
    go_wp2_with fail
    go_ret2
    exact kinds_end HF.out rfl
  have q1 : (word.toList == [112, 117, 98, 108, 105, 115, 104]) = false := by simpa using h1
  by_cases h2 : word.toList = [121, 97, 110, 107]
  · obtain ⟨b1, hb1⟩ : ∃ x, decide (n = 3) = x := ⟨_, rfl⟩
    have HF : Hid (KdIs word.toList n ⟨#[110, 110, 118]⟩ b1) := by show KdIs _ _ _ _; rw [h2, ← hb1]; exact kd_wYank n
    have q2 : (word.toList == [121, 97, 110, 107]) = true := by simpa using h2
    have r1 : ((n : Int) == 3) = b1 := by rw [← hb1, Bool.eq_iff_iff]; simp; omega
    clear h2
    go_enter Tryz.func91, Tryz.ntmps91
    go_wp2_with fail
    go_ret2
    exact kinds_end HF.out rfl
  have q2 : (word.toList == [121, 97, 110, 107]) = false := by simpa using h2
  by_cases h3 : word.toList = [117, 110, 121, 97, 110, 107]
  · obtain ⟨b1, hb1⟩ : ∃ x, decide (n = 3) = x := ⟨_, rfl⟩
    have HF : Hid (KdIs word.toList n ⟨#[110, 110, 118]⟩ b1) := by show KdIs _ _ _ _; rw [h3, ← hb1]; exact kd_wUnyank n
    have q3 : (word.toList == [117, 110, 121, 97, 110, 107]) = true := by simpa using h3
    have r1 : ((n : Int) == 3) = b1 := by rw [← hb1, Bool.eq_iff_iff]; simp; omega
    clear h3
    go_enter Tryz.func91, Tryz.ntmps91
    go_wp2_with fail
    go_ret2
    exact kinds_end HF.out rfl
  have q3 : (word.toList == [117, 110, 121, 97, 110, 107]) = false := by simpa using h3
  by_cases h4 : word.toList = [100, 101, 112, 114, 101, 99, 97, 116, 101]
  · obtain ⟨b1, hb1⟩ : ∃ x, decide (n = 3) = x := ⟨_, rfl⟩
    have HF : Hid (KdIs word.toList n ⟨#[110, 110, 118]⟩ b1) := by show KdIs _ _ _ _; rw [h4, ← hb1]; exact kd_wDeprecate n
    have q4 : (word.toList == [100, 101, 112, 114, 101, 99, 97, 116, 101]) = true := by simpa using h4
    have r1 : ((n : Int) == 3) = b1 := by rw [← hb1, Bool.eq_iff_iff]; simp; omega
    clear h4
    go_enter Tryz.func91, Tryz.ntmps91
    go_wp2_with fail
    go_ret2
    exact kinds_end HF.out rfl
  have q4 : (word.toList == [100, 101, 112, 114, 101, 99, 97, 116, 101]) = false := by simpa using h4
  by_cases h5 : word.toList = [113, 117, 101, 114, 121]
  · obtain ⟨b1, hb1⟩ : ∃ x, decide (n = 1) = x := ⟨_, rfl⟩
    obtain ⟨b2, hb2⟩ : ∃ x, decide (n = 2) = x := ⟨_, rfl⟩
    have HF : Hid (KdIs word.toList n ⟨#[110, 118]⟩ (b1 || b2)) := by show KdIs _ _ _ _; rw [h5, ← hb1, ← hb2]; exact kd_wQuery n
    have q5 : (word.toList == [113, 117, 101, 114, 121]) = true := by simpa using h5
    have r1 : ((n : Int) == 1) = b1 := by rw [← hb1, Bool.eq_iff_iff]; simp; omega
    have r2 : ((n : Int) == 2) = b2 := by rw [← hb2, Bool.eq_iff_iff]; simp; omega
    clear h5
    cases b1 <;> cases b2
    all_goals
      go_enter Tryz.func91, Tryz.ntmps91
      go_wp2_with fail
      go_ret2
      exact kinds_end HF.out rfl
  have q5 : (word.toList == [113, 117, 101, 114, 121]) = false := by simpa using h5
  by_cases h6 : word.toList = [100, 105, 102, 102]
  · obtain ⟨b1, hb1⟩ : ∃ x, decide (n = 3) = x := ⟨_, rfl⟩
    have HF : Hid (KdIs word.toList n ⟨#[110, 118, 118]⟩ b1) := by show KdIs _ _ _ _; rw [h6, ← hb1]; exact kd_wDiff n
    have q6 : (word.toList == [100, 105, 102, 102]) = true := by simpa using h6
    have r1 : ((n : Int) == 3) = b1 := by rw [← hb1, Bool.eq_iff_iff]; simp; omega
    clear h6
    go_enter Tryz.func91, Tryz.ntmps91
    go_wp2_with fail
    go_ret2
    exact kinds_end HF.out rfl
  have q6 : (word.toList == [100, 105, 102, 102]) = false := by simpa using h6
  by_cases h7 : word.toList = [114, 101, 115, 111, 108, 118, 101]
  · obtain ⟨b1, hb1⟩ : ∃ x, decide (n = 1) = x := ⟨_, rfl⟩
    have HF : Hid (KdIs word.toList n ⟨#[115]⟩ b1) := by show KdIs _ _ _ _; rw [h7, ← hb1]; exact kd_wResolve n
    have q7 : (word.toList == [114, 101, 115, 111, 108, 118, 101]) = true := by simpa using h7
    have r1 : ((n : Int) == 1) = b1 := by rw [← hb1, Bool.eq_iff_iff]; simp; omega
    clear h7
    go_enter Tryz.func91, Tryz.ntmps91
    go_wp2_with fail
    go_ret2
    exact kinds_end HF.out rfl
  have q7 : (word.toList == [114, 101, 115, 111, 108, 118, 101]) = false := by simpa using h7
  by_cases h8 : word.toList = [114, 101, 99, 104, 101, 99, 107]
  · obtain ⟨b1, hb1⟩ : ∃ x, decide (n = 4) = x := ⟨_, rfl⟩
    have HF : Hid (KdIs word.toList n ⟨#[110, 118, 110, 118]⟩ b1) := by show KdIs _ _ _ _; rw [h8, ← hb1]; exact kd_wRecheck n
    have q8 : (word.toList == [114, 101, 99, 104, 101, 99, 107]) = true := by simpa using h8
    have r1 : ((n : Int) == 4) = b1 := by rw [← hb1, Bool.eq_iff_iff]; simp; omega
    clear h8
    go_enter Tryz.func91, Tryz.ntmps91
    go_wp2_with fail
    go_ret2
    exact kinds_end HF.out rfl
  have q8 : (word.toList == [114, 101, 99, 104, 101, 99, 107]) = false := by simpa using h8
  have HF : Hid (KdIs word.toList n ⟨#[]⟩ false) := by
    refine .inr ⟨rfl, kd_no n (fun w hw => ?_)⟩
    simp only [List.mem_cons, List.not_mem_nil, or_false] at hw
    rcases hw with rfl | rfl | rfl | rfl | rfl | rfl | rfl | rfl | rfl
    · exact h0
    · exact h1
    · exact h2
    · exact h3
    · exact h4
    · exact h5
    · exact h6
    · exact h7
    · exact h8
  clear h0 h1 h2 h3 h4 h5 h6 h7 h8
  go_enter Tryz.func91, Tryz.ntmps91
  go_wp2_with fail
  go_ret2
  exact kinds_end HF.out rfl
set_option maxRecDepth 100000 in
theorem has_any (word : ByteArray) (w : World) : Calls Tryz.prog 54 #[.string word] w fun e w' => e = .returned (.bool (hasBody word.data.toList)) ∧ w' = w := by
  rw [← Lib.toList_data]
  obtain ⟨b1, hb1⟩ : ∃ x, (word.toList == [112, 117, 98, 108, 105, 115, 104]) = x := ⟨_, rfl⟩
  obtain ⟨b2, hb2⟩ : ∃ x, (word.toList == [100, 101, 112, 114, 101, 99, 97, 116, 101]) = x := ⟨_, rfl⟩
  obtain ⟨b3, hb3⟩ : ∃ x, (word.toList == [114, 101, 115, 111, 108, 118, 101]) = x := ⟨_, rfl⟩
  have e1 : decide (word.toList = wPublish) = b1 := (dec_beq _ _).trans hb1
  have e2 : decide (word.toList = wDeprecate) = b2 := (dec_beq _ _).trans hb2
  have e3 : decide (word.toList = wResolve) = b3 := (dec_beq _ _).trans hb3
  have HF : Hid (hasBody word.toList = (b1 || b2 || b3)) := by show _ = _; unfold hasBody; rw [e1, e2, e3]
  clear e1 e2 e3
  cases b1 <;> cases b2 <;> cases b3
  all_goals
    go_enter Tryz.func54, Tryz.ntmps54
    go_wp2_with fail
    go_ret
    exact ⟨by rw [HF.out]; rfl, rfl⟩
def StRel (s : ByteArray) (i : Value) : Prop := ∃ k : Nat, k ≤ s.size ∧ i = .int .i64 (k : Int) ∧ (s.data.toList.take k).all Sem4.isDig = true
set_option maxRecDepth 100000 in
set_option maxHeartbeats 2000000 in
theorem rsteps_any (s : ByteArray) (w : World) (hs : s.size ≤ 9223372036854775807) : Calls Tryz.prog 122 #[.string s] w fun e w' => e = .returned (.bool (stepsOk s.data.toList)) ∧ w' = w := by
  go_enter Tryz.func122, Tryz.ntmps122
  go_wp2_with fail
  go_loop [3] (fun i => StRel s i) (fun i => s.size - (intOf i).toNat)
  case atStart => exact ⟨0, Nat.zero_le _, rfl, rfl⟩
  case round =>
    obtain ⟨k, hk, rfl, hall⟩ := hrel
    have HA := Lib.hid hall
    clear hall
    by_cases hlt : k < s.size
    · have i0 : (0 : Int) ≤ (k : Int) := by omega
      have i1 : (k : Int) < (s.size : Int) := by omega
      have HT := Lib.hid (take_byte s k hlt)
      obtain ⟨y, hy⟩ : ∃ y, s[k] = y := ⟨_, rfl⟩
      have HM : Hid (y ∈ s.data.toList) := by
        show _ ∈ _
        rw [← hy]
        have : k < s.data.toList.length := by rw [← Lib.size_eq]; exact hlt
        exact List.getElem_mem this
      rw [hy] at HT
      by_cases h1 : y.toNat < 48
      · have q1 : decide ((y.toNat : Int) < 48) = true := by simp; omega
        have HF : Hid (stepsOk s.data.toList = false) := by
          show _ = _
          rw [steps_cases]
          have : s.data.toList.all Sem4.isDig = false := by rw [List.all_eq_false]; exact ⟨y, HM.out, by simp [Sem4.isDig]; omega⟩
          rw [this]; simp
        clear h1
        go_wp2_with fail
        go_ret
        exact ⟨by rw [HF.out]; rfl, rfl⟩
      · have q1 : decide ((y.toNat : Int) < 48) = false := by simp; omega
        by_cases h2 : 57 < y.toNat
        · have q2 : decide ((57 : Int) < (y.toNat : Int)) = true := by simp; omega
          have HF : Hid (stepsOk s.data.toList = false) := by
            show _ = _
            rw [steps_cases]
            have : s.data.toList.all Sem4.isDig = false := by rw [List.all_eq_false]; exact ⟨y, HM.out, by simp [Sem4.isDig]; omega⟩
            rw [this]; simp
          clear h1 h2
          go_wp2_with fail
          go_ret
          exact ⟨by rw [HF.out]; rfl, rfl⟩
        · have q2 : decide ((57 : Int) < (y.toNat : Int)) = false := by simp; omega
          have HD : Hid (Sem4.isDig y = true) := by show _ = _; simp [Sem4.isDig]; omega
          clear h1 h2
          go_wp2_with fail
          go_round
          case rel => exact ⟨k + 1, by omega, by go_num, by rw [HT.out, List.all_append, HA.out]; simp [HD.out]⟩
          case measure => simp [intOf]; omega
    · have q2 : decide (k < s.size) = false := decide_eq_false hlt
      have hall : s.data.toList.all Sem4.isDig = true := by
        have h := HA.out
        rw [List.take_of_length_le (by rw [← Lib.size_eq]; omega)] at h
        exact h
      have HAl := Lib.hid hall
      clear hlt hall
      by_cases hz : s.size = 0
      · have q3 : decide ((1 : Int) ≤ (s.size : Int)) = false := by simp; omega
        have q3' : decide (1 ≤ s.size) = false := decide_eq_false (by omega)
        have HF : Hid (stepsOk s.data.toList = false) := by show _ = _; rw [steps_cases, ← Lib.size_eq, decide_eq_false (show ¬ 1 ≤ s.size by omega)]; rfl
        clear hz
        go_wp2_with fail
        go_ret
        exact ⟨by rw [HF.out]; rfl, rfl⟩
      have hsz : 0 < s.size := by omega
      have q3 : decide ((1 : Int) ≤ (s.size : Int)) = true := by simp; omega
      have q3' : decide (1 ≤ s.size) = true := decide_eq_true (by omega)
      by_cases h7 : 7 < s.size
      · have q4 : decide ((s.size : Int) ≤ 7) = false := by simp; omega
        have q4' : decide (s.size ≤ 7) = false := decide_eq_false (by omega)
        have HF : Hid (stepsOk s.data.toList = false) := by show _ = _; rw [steps_cases, ← Lib.size_eq, decide_eq_false (show ¬ s.size ≤ 7 by omega)]; simp
        clear hz h7
        go_wp2_with fail
        go_ret
        exact ⟨by rw [HF.out]; rfl, rfl⟩
      have q4 : decide ((s.size : Int) ≤ 7) = true := by simp; omega
      have q4' : decide (s.size ≤ 7) = true := decide_eq_true (by omega)
      have i0 : (0 : Int) < (s.size : Int) := by omega
      have hbh := byte_head0 s hsz
      obtain ⟨x, hx⟩ : ∃ x, s[0] = x := ⟨_, rfl⟩
      rw [hx] at hbh
      obtain ⟨b1, hb1⟩ : ∃ b, ((s.size : Int) == 1) = b := ⟨_, rfl⟩
      obtain ⟨b2, hb2⟩ : ∃ b, ((x.toNat : Int) != 48) = b := ⟨_, rfl⟩
      have HF : Hid (stepsOk s.data.toList = (b1 || b2)) := by
        show _ = _
        rw [steps_cases, ← Lib.size_eq, decide_eq_true (show 1 ≤ s.size by omega), decide_eq_true (show s.size ≤ 7 by omega), HAl.out, ← hb1, ← hb2]
        simp only [Bool.true_and]
        rw [Bool.eq_iff_iff]
        simp only [Bool.or_eq_true, decide_eq_true_eq, beq_iff_eq, bne_iff_ne]
        rw [hbh]
        have hl : (s.data.toList.drop 1).length = s.size - 1 := by rw [List.length_drop, ← Lib.size_eq]
        constructor
        · rintro (h | h)
          · left
            have := congrArg List.length h
            simp only [List.length_cons, List.length_nil] at this
            omega
          · right
            intro h2
            apply h
            rw [List.head?_cons]
            congr 1
            exact UInt8.toNat_inj.1 (by show x.toNat = 48; omega)
        · rintro h
          by_cases hx48 : x = 48
          · left
            rcases h with h | h
            · rw [hx48]
              have : s.data.toList.drop 1 = [] := List.eq_nil_of_length_eq_zero (by omega)
              rw [this]
            · exact absurd (by rw [hx48]; rfl) h
          · right
            rw [List.head?_cons]
            intro h2
            injection h2 with h2
            exact hx48 h2
      have hb1' : decide (s.size = 1) = b1 := by rw [← hb1, Bool.eq_iff_iff]; simp; omega
      clear hz h7 hbh
      cases b1 <;> cases b2
      all_goals
        go_wp2_with fail
        go_ret
        exact ⟨by rw [HF.out]; rfl, rfl⟩
set_option maxRecDepth 100000 in
theorem rfits_as (s : ByteArray) (kind : UInt8) (r : Bool) (hk : kind = 110 ∨ kind = 118 ∨ kind = 115) (h : fitsB s.data.toList kind = r) (w : World) (hs : s.size ≤ 9223372036854775807) :
    Calls Tryz.prog 92 #[.string s, .int .u8 (kind.toNat : Int)] w fun e w' => e = .returned (.bool r) ∧ Below w.heap.size w w' := by
  rcases hk with rfl | rfl | rfl
  · have H := Lib.hid (rname_as s r h)
    clear h
    show Calls Tryz.prog 92 #[.string s, .int .u8 110] w _
    go_enter Tryz.func92, Tryz.ntmps92
    go_wp2_with fail
    refine (H.out _).mono ?_
    rintro e w1 ⟨rfl, hb1⟩
    go_wp2_with fail
    go_ret
    exact ⟨rfl, hb1⟩
  · have HR : Hid (isVer s.data.toList = r) := h
    clear h
    show Calls Tryz.prog 92 #[.string s, .int .u8 118] w _
    go_enter Tryz.func92, Tryz.ntmps92
    go_wp2_with fail
    refine (refParse_any s _ hs).mono ?_
    rintro e w1 ⟨a, b, c, p, er, rfl, hp, hb1⟩
    have hq : (er == 0) = r := by
      rcases isVer_parse hp with ⟨h1, h2⟩ | ⟨h1, h2⟩
      · rw [h1, ← HR.out, h2]; rfl
      · rw [h1, ← HR.out, h2]; rfl
    have hb2 := hb1.alloc hb1.size (.cells #[.int .i64 a, .int .i64 b, .int .i64 c, .string (S p)] 23)
    clear hp
    go_wp2_with fail
    go_ret
    exact ⟨rfl, hb2⟩
  · have H := rsteps_any s
    rw [show stepsOk s.data.toList = r from h] at H
    have H := Lib.hid H
    clear h
    show Calls Tryz.prog 92 #[.string s, .int .u8 115] w _
    go_enter Tryz.func92, Tryz.ntmps92
    go_wp2_with fail
    refine (H.out _ hs).mono ?_
    rintro e w1 ⟨rfl, rfl⟩
    go_wp2_with fail
    go_ret
    exact ⟨rfl, Below.refl _ _⟩
def RtRel (ls : List (List UInt8)) (k : List UInt8) (w : World) (i : Value) (wr : World) : Prop := ∃ m : Nat, m ≤ ls.length ∧ i = .int .i64 (m : Int) ∧ (∀ j, j < m → fitsB (ls.getD j []) (k.getD j 0) = true) ∧ Below w.heap.size w wr
set_option maxRecDepth 100000 in
set_option maxHeartbeats 2000000 in
theorem right_any (word : ByteArray) (v : Value) (ls : List (List UInt8)) (w : World) (hv : Strs w v ls) (hlen : ∃ a cap, v = .slice a ls.length cap) (hs : ∀ l ∈ ls, l.length ≤ 9223372036854775807) :
    Calls Tryz.prog 53 #[.string word, v] w fun e w' => e = .returned (.bool (rightB word.data.toList ls)) ∧ Below w.heap.size w w' := by
  obtain ⟨a, cap, rfl⟩ := hlen
  have HV := Lib.hid hv.cases.2
  have hn := hv.cases.1
  unfold maxLen at hn
  have HS := Lib.hid hs
  have hn' : ls.length ≤ 9223372036854775807 := by omega
  clear hv hs
  go_enter Tryz.func53, Tryz.ntmps53
  go_wp2_with fail
  refine (kinds_any word ls.length _).mono ?_
  rintro e w1 ⟨k, ok, rfl, hk, rfl⟩
  have HK := Lib.hid hk
  clear hk
  cases ok with
  | false =>
    have HF : Hid (rightB word.data.toList ls = false) := by
      show _ = _
      rcases HK.out with ⟨h, _⟩ | ⟨_, h⟩
      · cases h
      · unfold rightB; rw [h]
    go_wp2_with fail
    go_ret
    exact ⟨by rw [HF.out]; rfl, Below.refl _ _⟩
  | true =>
    have hks : ls.length ≤ k.size := by
      rcases HK.out with ⟨_, h, _⟩ | ⟨h, _⟩
      · exact h
      · cases h
    have HKc : Hid (∀ c ∈ k.data.toList, c = 110 ∨ c = 118 ∨ c = 115) := by
      rcases HK.out with ⟨_, _, h, _⟩ | ⟨h, _⟩
      · exact h
      · cases h
    have HRt : Hid (rightB word.data.toList ls = allFit ls (k.data.toList.take ls.length)) := by
      show _ = _
      rcases HK.out with ⟨_, _, _, h⟩ | ⟨h, _⟩
      · unfold rightB; rw [h]
      · cases h
    have HKt : Hid (∀ j, j < ls.length → (k.data.toList.take ls.length).getD j 0 = k.data.toList.getD j 0) := by
      intro j hj
      rw [List.getD_eq_getElem?_getD, List.getD_eq_getElem?_getD, List.getElem?_take_of_lt hj]
    have HKl : Hid ((k.data.toList.take ls.length).length = ls.length) := by show _ = _; rw [List.length_take, ← Lib.size_eq]; omega
    go_wp2_with fail
    go_loopw [7] (fun i wr => RtRel ls k.data.toList w i wr) (fun i _ => ls.length - (intOf i).toNat)
    case atStart => exact ⟨0, Nat.zero_le _, rfl, fun j hj => absurd hj (by omega), Below.refl _ _⟩
    case round =>
      obtain ⟨m, hm, rfl, hfit, hb⟩ := hrel
      have HFi := Lib.hid hfit
      clear hfit
      by_cases hmt : m < ls.length
      · have hm2 : m < k.size := by omega
        have i0 : (0 : Int) ≤ (m : Int) := by omega
        have i1 : (m : Int) < (ls.length : Int) := by omega
        have i2 : (m : Int) < (k.size : Int) := by omega
        rcases HV.out with ⟨_, _, _, h0⟩ | ⟨bx, ox, cx, hva, _, hbx, hcx⟩
        · rw [h0] at hmt; cases hmt
        have ha : a = some ⟨bx, ox, none⟩ := by injection hva
        subst ha
        have c0 := (hb.cell (p := ⟨bx, ox + m, none⟩) hbx).trans (hcx m hmt)
        have HCX := Lib.hid hcx
        obtain ⟨y, hy⟩ : ∃ y, k[m] = y := ⟨_, rfl⟩
        have hyk : k.data.toList.getD m 0 = y := by
          rw [List.getD_eq_getElem?_getD, List.getElem?_eq_getElem (by rw [← Lib.size_eq]; exact hm2)]; exact hy
        have HYK := Lib.hid hyk
        have HKd := Lib.hid (HKc.out y (by
          rw [← hy]
          have : m < k.data.toList.length := by rw [← Lib.size_eq]; exact hm2
          exact List.getElem_mem this))
        obtain ⟨A, hA⟩ : ∃ A, S ls[m] = A := ⟨_, rfl⟩
        have HAd : Hid (ls.getD m [] = A.data.toList) := by show _ = _; rw [← hA, List.getD_eq_getElem?_getD, List.getElem?_eq_getElem hmt]; rfl
        have HAs : Hid (A.size ≤ 9223372036854775807) := by show _ ≤ _; rw [← hA, S_size]; exact HS.out _ (List.getElem_mem hmt)
        rw [hA] at c0
        obtain ⟨r, hr⟩ : ∃ r, fitsB A.data.toList y = r := ⟨_, rfl⟩
        have HR := Lib.hid hr
        clear hyk hA hr hva hcx HV
        cases r
        · have HF : Hid (rightB word.data.toList ls = false) := by
            show _ = _
            rw [HRt.out, Bool.eq_false_iff]
            intro h
            have := (allFit_iff.1 h).2 m hmt
            rw [HKt.out m hmt, HAd.out, HYK.out, HR.out] at this
            cases this
          go_wp2_with fail
          refine region_still_tail 7 (by kernel_rfl) (by kernel_rfl) ?_
          simp only [List.take_succ_cons, List.take_zero, List.drop_succ_cons, List.drop_zero]
          repeat still_step
          refine wpStill_nil ?_
          go_wp2_with fail
          refine (rfits_as A y false HKd.out HR.out _ HAs.out).mono ?_
          rintro e w3 ⟨rfl, hb3⟩
          have hbX := below_then hb.drew hb3
          go_wp2_with fail
          go_ret
          exact ⟨by rw [HF.out]; rfl, hbX⟩
        · go_wp2_with fail
          refine region_still_tail 7 (by kernel_rfl) (by kernel_rfl) ?_
          simp only [List.take_succ_cons, List.take_zero, List.drop_succ_cons, List.drop_zero]
          repeat still_step
          refine wpStill_nil ?_
          go_wp2_with fail
          refine (rfits_as A y true HKd.out HR.out _ HAs.out).mono ?_
          rintro e w3 ⟨rfl, hb3⟩
          have hbX := below_then hb.drew hb3
          go_wp2_with fail
          go_roundw
          case rel =>
            refine ⟨m + 1, by omega, by go_num, fun j hj => ?_, hbX⟩
            rcases Nat.lt_or_ge j m with h1 | h1
            · exact HFi.out j h1
            · obtain rfl : j = m := by omega
              rw [HAd.out, HYK.out, HR.out]
          case measure => simp [intOf]; omega
      · have q4 : decide (m < ls.length) = false := decide_eq_false hmt
        have HF : Hid (rightB word.data.toList ls = true) := by
          show _ = _
          rw [HRt.out, allFit_iff]
          exact ⟨HKl.out.symm, fun j hj => by rw [HKt.out j hj]; exact HFi.out j (by omega)⟩
        clear hmt
        go_wp2_with fail
        go_ret
        exact ⟨by rw [HF.out]; rfl, hb⟩
theorem right_as (X : ByteArray) (T : List (List UInt8)) (r : Bool) (hr : rightB X.data.toList T = r) (v : Value) (w : World) (hv : Strs w v T) (hlen : ∃ a cap, v = .slice a T.length cap) (hs : ∀ l ∈ T, l.length ≤ 9223372036854775807) :
    Calls Tryz.prog 53 #[.string X, v] w fun e w' => e = .returned (.bool r) ∧ Below w.heap.size w w' := by
  subst hr
  exact right_any X v T w hv hlen hs
theorem has_as (X : ByteArray) (r : Bool) (hr : hasBody X.data.toList = r) (w : World) : Calls Tryz.prog 54 #[.string X] w fun e w' => e = .returned (.bool r) ∧ w' = w := by
  subst hr
  exact has_any X w
end Go.Proofs.YtjjpngdbbjeaiaaGreatDoor
