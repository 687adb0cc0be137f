/- Names: the program's: walks. -/
import Derived.Test.YtbgimpeklblcjaaGreatDoorLexMath
import Derived.Test.YtbgimpeklblcjaaGreatDoorSemCom
import Derived.Test.YtbgimpeklblcjaaGreatDoorProg
namespace Go
def namedB (l : List UInt8) : Bool := decide (l.length ≤ 24) && headIs smallC l && l.all restC
theorem name_named (l : List UInt8) : nameOk l = (namedB l && !keptB l) := rfl
theorem kept_no {l : List UInt8} (h : ∀ w ∈ keptL, l ≠ w) : keptB l = false := decide_eq_false (fun hm => h l hm rfl)
end Go
namespace Go.Proofs.YtbgimpeklblcjaaGreatDoor
open Go.RowKit
def NmRel (s : ByteArray) (i : Value) : Prop := ∃ k : Nat, k ≤ s.size ∧ i = .int .i64 (k : Int) ∧ (s.data.toList.take k).all restC = true
set_option maxRecDepth 100000 in
theorem lsmall_as (x : UInt8) (r : Bool) (h : smallC x = r) (w : World) : Calls Tryz.prog 73 #[.int .u8 (x.toNat : Int)] w fun e w' => e = .returned (.bool r) ∧ w' = w := by
 obtain ⟨a, ha⟩ : ∃ a, decide (97 ≤ x.toNat) = a := ⟨_, rfl⟩
 obtain ⟨b, hb⟩ : ∃ b, decide (x.toNat ≤ 122) = b := ⟨_, rfl⟩
 have HR : Hid (r = (a && b)) := by show _ = _; rw [← h, ← ha, ← hb]; rfl
 have ha' : decide ((97 : Int) ≤ (x.toNat : Int)) = a := by rw [← ha, decide_eq_decide]; omega
 have hb' : decide ((x.toNat : Int) ≤ 122) = b := by rw [← hb, decide_eq_decide]; omega
 clear h
 cases a <;> cases b
 all_goals
  go_enter Tryz.func73, Tryz.ntmps73
  go_wp2_with fail
  go_ret
  exact ⟨by rw [HR.out]; rfl, rfl⟩
set_option maxRecDepth 100000 in
theorem lgreat_as (x : UInt8) (r : Bool) (h : greatC x = r) (w : World) : Calls Tryz.prog 130 #[.int .u8 (x.toNat : Int)] w fun e w' => e = .returned (.bool r) ∧ w' = w := by
 obtain ⟨a, ha⟩ : ∃ a, decide (65 ≤ x.toNat) = a := ⟨_, rfl⟩
 obtain ⟨b, hb⟩ : ∃ b, decide (x.toNat ≤ 90) = b := ⟨_, rfl⟩
 have HR : Hid (r = (a && b)) := by show _ = _; rw [← h, ← ha, ← hb]; rfl
 have ha' : decide ((65 : Int) ≤ (x.toNat : Int)) = a := by rw [← ha, decide_eq_decide]; omega
 have hb' : decide ((x.toNat : Int) ≤ 90) = b := by rw [← hb, decide_eq_decide]; omega
 clear h
 cases a <;> cases b
 all_goals
  go_enter Tryz.func130, Tryz.ntmps130
  go_wp2_with fail
  go_ret
  exact ⟨by rw [HR.out]; rfl, rfl⟩
set_option maxRecDepth 100000 in
theorem ldigit_as (x : UInt8) (r : Bool) (h : Sem4.isDig x = r) (w : World) : Calls Tryz.prog 131 #[.int .u8 (x.toNat : Int)] w fun e w' => e = .returned (.bool r) ∧ w' = w := by
 obtain ⟨a, ha⟩ : ∃ a, decide (48 ≤ x.toNat) = a := ⟨_, rfl⟩
 obtain ⟨b, hb⟩ : ∃ b, decide (x.toNat ≤ 57) = b := ⟨_, rfl⟩
 have HR : Hid (r = (a && b)) := by show _ = _; rw [← h, ← ha, ← hb]; rfl
 have ha' : decide ((48 : Int) ≤ (x.toNat : Int)) = a := by rw [← ha, decide_eq_decide]; omega
 have hb' : decide ((x.toNat : Int) ≤ 57) = b := by rw [← hb, decide_eq_decide]; omega
 clear h
 cases a <;> cases b
 all_goals
  go_enter Tryz.func131, Tryz.ntmps131
  go_wp2_with fail
  go_ret
  exact ⟨by rw [HR.out]; rfl, rfl⟩
set_option maxRecDepth 100000 in
theorem lrest_as (x : UInt8) (r : Bool) (h : restC x = r) (w : World) : Calls Tryz.prog 103 #[.int .u8 (x.toNat : Int)] w fun e w' => e = .returned (.bool r) ∧ w' = w := by
 obtain ⟨a, ha⟩ : ∃ a, smallC x = a := ⟨_, rfl⟩
 obtain ⟨b, hb⟩ : ∃ b, greatC x = b := ⟨_, rfl⟩
 obtain ⟨c, hc⟩ : ∃ c, Sem4.isDig x = c := ⟨_, rfl⟩
 obtain ⟨d, hd⟩ : ∃ d, decide (x.toNat = 95) = d := ⟨_, rfl⟩
 have HR : Hid (r = (a || b || c || d)) := by show _ = _; rw [← h]; unfold restC; rw [ha, hb, hc, hd]
 have q : ((x.toNat : Int) == 95) = d := by
  rw [← hd]
  by_cases h95 : x.toNat = 95
  ·rw [h95]; decide
  ·rw [decide_eq_false h95, beq_eq_false_iff_ne]; omega
 have HA := Lib.hid (fun w => lsmall_as x a ha w)
 have HB := Lib.hid (fun w => lgreat_as x b hb w)
 have HC := Lib.hid (fun w => ldigit_as x c hc w)
 clear h ha hb hc hd
 cases a
 case true =>
  go_enter Tryz.func103, Tryz.ntmps103
  go_wp2_with fail
  refine (HA.out _).mono ?_
  rintro e w1 ⟨rfl, rfl⟩
  go_wp2_with fail
  go_ret
  exact ⟨by rw [HR.out]; rfl, rfl⟩
 cases b
 case true =>
  go_enter Tryz.func103, Tryz.ntmps103
  go_wp2_with fail
  refine (HA.out _).mono ?_
  rintro e w1 ⟨rfl, rfl⟩
  go_wp2_with fail
  refine (HB.out _).mono ?_
  rintro e w1 ⟨rfl, rfl⟩
  go_wp2_with fail
  go_ret
  exact ⟨by rw [HR.out]; rfl, rfl⟩
 cases c <;> cases d
 all_goals
  go_enter Tryz.func103, Tryz.ntmps103
  go_wp2_with fail
  refine (HA.out _).mono ?_
  rintro e w1 ⟨rfl, rfl⟩
  go_wp2_with fail
  refine (HB.out _).mono ?_
  rintro e w1 ⟨rfl, rfl⟩
  go_wp2_with fail
  refine (HC.out _).mono ?_
  rintro e w1 ⟨rfl, rfl⟩
  go_wp2_with fail
  go_ret
  exact ⟨by rw [HR.out]; rfl, rfl⟩
set_option maxRecDepth 100000 in
set_option maxHeartbeats 4000000 in
theorem lword_any (s : ByteArray) (w : World) : Calls Tryz.prog 74 #[.string s] w fun e w' => e = .returned (.bool (keptB s.data.toList)) ∧ w' = w := by
 rw [← Lib.toList_data]
 by_cases h0 : s.toList = [109, 111, 100, 117, 108, 101]
 ·have HF : Hid (keptB s.toList = true) := by show _ = _; rw [h0]; decide
  have q0 : (s.toList == [109, 111, 100, 117, 108, 101]) = true := by simpa using h0
  clear h0
  go_enter Tryz.func74, Tryz.ntmps74
  go_wp2_with fail
  go_ret
  exact ⟨by rw [HF.out]; rfl, rfl⟩
 have q0 : (s.toList == [109, 111, 100, 117, 108, 101]) = false := by simpa using h0
 by_cases h1 : s.toList = [105, 109, 112, 111, 114, 116]
 ·have HF : Hid (keptB s.toList = true) := by show _ = _; rw [h1]; decide
  have q1 : (s.toList == [105, 109, 112, 111, 114, 116]) = true := by simpa using h1
  clear h1
  go_enter Tryz.func74, Tryz.ntmps74
  go_wp2_with fail
  go_ret
  exact ⟨by rw [HF.out]; rfl, rfl⟩
 have q1 : (s.toList == [105, 109, 112, 111, 114, 116]) = false := by simpa using h1
 by_cases h2 : s.toList = [112, 105, 110]
 ·have HF : Hid (keptB s.toList = true) := by show _ = _; rw [h2]; decide
  have q2 : (s.toList == [112, 105, 110]) = true := by simpa using h2
  clear h2
  go_enter Tryz.func74, Tryz.ntmps74
  go_wp2_with fail
  go_ret
  exact ⟨by rw [HF.out]; rfl, rfl⟩
 have q2 : (s.toList == [112, 105, 110]) = false := by simpa using h2
 by_cases h3 : s.toList = [114, 97, 110, 103, 101]
 ·have HF : Hid (keptB s.toList = true) := by show _ = _; rw [h3]; decide
  have q3 : (s.toList == [114, 97, 110, 103, 101]) = true := by simpa using h3
  clear h3
  go_enter Tryz.func74, Tryz.ntmps74
  go_wp2_with fail
  go_ret
  exact ⟨by rw [HF.out]; rfl, rfl⟩
 have q3 : (s.toList == [114, 97, 110, 103, 101]) = false := by simpa using h3
 by_cases h4 : s.toList = [116, 121, 112, 101]
 ·have HF : Hid (keptB s.toList = true) := by show _ = _; rw [h4]; decide
  have q4 : (s.toList == [116, 121, 112, 101]) = true := by simpa using h4
  clear h4
  go_enter Tryz.func74, Tryz.ntmps74
  go_wp2_with fail
  go_ret
  exact ⟨by rw [HF.out]; rfl, rfl⟩
 have q4 : (s.toList == [116, 121, 112, 101]) = false := by simpa using h4
 by_cases h5 : s.toList = [111, 112, 97, 113, 117, 101]
 ·have HF : Hid (keptB s.toList = true) := by show _ = _; rw [h5]; decide
  have q5 : (s.toList == [111, 112, 97, 113, 117, 101]) = true := by simpa using h5
  clear h5
  go_enter Tryz.func74, Tryz.ntmps74
  go_wp2_with fail
  go_ret
  exact ⟨by rw [HF.out]; rfl, rfl⟩
 have q5 : (s.toList == [111, 112, 97, 113, 117, 101]) = false := by simpa using h5
 by_cases h6 : s.toList = [108, 101, 116]
 ·have HF : Hid (keptB s.toList = true) := by show _ = _; rw [h6]; decide
  have q6 : (s.toList == [108, 101, 116]) = true := by simpa using h6
  clear h6
  go_enter Tryz.func74, Tryz.ntmps74
  go_wp2_with fail
  go_ret
  exact ⟨by rw [HF.out]; rfl, rfl⟩
 have q6 : (s.toList == [108, 101, 116]) = false := by simpa using h6
 by_cases h7 : s.toList = [105, 110]
 ·have HF : Hid (keptB s.toList = true) := by show _ = _; rw [h7]; decide
  have q7 : (s.toList == [105, 110]) = true := by simpa using h7
  clear h7
  go_enter Tryz.func74, Tryz.ntmps74
  go_wp2_with fail
  go_ret
  exact ⟨by rw [HF.out]; rfl, rfl⟩
 have q7 : (s.toList == [105, 110]) = false := by simpa using h7
 by_cases h8 : s.toList = [101, 120, 112, 111, 114, 116]
 ·have HF : Hid (keptB s.toList = true) := by show _ = _; rw [h8]; decide
  have q8 : (s.toList == [101, 120, 112, 111, 114, 116]) = true := by simpa using h8
  clear h8
  go_enter Tryz.func74, Tryz.ntmps74
  go_wp2_with fail
  go_ret
  exact ⟨by rw [HF.out]; rfl, rfl⟩
 have q8 : (s.toList == [101, 120, 112, 111, 114, 116]) = false := by simpa using h8
 by_cases h9 : s.toList = [102, 117, 110]
 ·have HF : Hid (keptB s.toList = true) := by show _ = _; rw [h9]; decide
  have q9 : (s.toList == [102, 117, 110]) = true := by simpa using h9
  clear h9
  go_enter Tryz.func74, Tryz.ntmps74
  go_wp2_with fail
  go_ret
  exact ⟨by rw [HF.out]; rfl, rfl⟩
 have q9 : (s.toList == [102, 117, 110]) = false := by simpa using h9
 by_cases h10 : s.toList = [105, 102]
 ·have HF : Hid (keptB s.toList = true) := by show _ = _; rw [h10]; decide
  have q10 : (s.toList == [105, 102]) = true := by simpa using h10
  clear h10
  go_enter Tryz.func74, Tryz.ntmps74
  go_wp2_with fail
  go_ret
  exact ⟨by rw [HF.out]; rfl, rfl⟩
 have q10 : (s.toList == [105, 102]) = false := by simpa using h10
 by_cases h11 : s.toList = [116, 104, 101, 110]
 ·have HF : Hid (keptB s.toList = true) := by show _ = _; rw [h11]; decide
  have q11 : (s.toList == [116, 104, 101, 110]) = true := by simpa using h11
  clear h11
  go_enter Tryz.func74, Tryz.ntmps74
  go_wp2_with fail
  go_ret
  exact ⟨by rw [HF.out]; rfl, rfl⟩
 have q11 : (s.toList == [116, 104, 101, 110]) = false := by simpa using h11
 by_cases h12 : s.toList = [101, 108, 115, 101]
 ·have HF : Hid (keptB s.toList = true) := by show _ = _; rw [h12]; decide
  have q12 : (s.toList == [101, 108, 115, 101]) = true := by simpa using h12
  clear h12
  go_enter Tryz.func74, Tryz.ntmps74
  go_wp2_with fail
  go_ret
  exact ⟨by rw [HF.out]; rfl, rfl⟩
 have q12 : (s.toList == [101, 108, 115, 101]) = false := by simpa using h12
 by_cases h13 : s.toList = [99, 97, 115, 101]
 ·have HF : Hid (keptB s.toList = true) := by show _ = _; rw [h13]; decide
  have q13 : (s.toList == [99, 97, 115, 101]) = true := by simpa using h13
  clear h13
  go_enter Tryz.func74, Tryz.ntmps74
  go_wp2_with fail
  go_ret
  exact ⟨by rw [HF.out]; rfl, rfl⟩
 have q13 : (s.toList == [99, 97, 115, 101]) = false := by simpa using h13
 by_cases h14 : s.toList = [111, 102]
 ·have HF : Hid (keptB s.toList = true) := by show _ = _; rw [h14]; decide
  have q14 : (s.toList == [111, 102]) = true := by simpa using h14
  clear h14
  go_enter Tryz.func74, Tryz.ntmps74
  go_wp2_with fail
  go_ret
  exact ⟨by rw [HF.out]; rfl, rfl⟩
 have q14 : (s.toList == [111, 102]) = false := by simpa using h14
 by_cases h15 : s.toList = [97, 115]
 ·have HF : Hid (keptB s.toList = true) := by show _ = _; rw [h15]; decide
  have q15 : (s.toList == [97, 115]) = true := by simpa using h15
  clear h15
  go_enter Tryz.func74, Tryz.ntmps74
  go_wp2_with fail
  go_ret
  exact ⟨by rw [HF.out]; rfl, rfl⟩
 have q15 : (s.toList == [97, 115]) = false := by simpa using h15
 by_cases h16 : s.toList = [110, 101, 119]
 ·have HF : Hid (keptB s.toList = true) := by show _ = _; rw [h16]; decide
  have q16 : (s.toList == [110, 101, 119]) = true := by simpa using h16
  clear h16
  go_enter Tryz.func74, Tryz.ntmps74
  go_wp2_with fail
  go_ret
  exact ⟨by rw [HF.out]; rfl, rfl⟩
 have q16 : (s.toList == [110, 101, 119]) = false := by simpa using h16
 by_cases h17 : s.toList = [114, 97, 119]
 ·have HF : Hid (keptB s.toList = true) := by show _ = _; rw [h17]; decide
  have q17 : (s.toList == [114, 97, 119]) = true := by simpa using h17
  clear h17
  go_enter Tryz.func74, Tryz.ntmps74
  go_wp2_with fail
  go_ret
  exact ⟨by rw [HF.out]; rfl, rfl⟩
 have q17 : (s.toList == [114, 97, 119]) = false := by simpa using h17
 by_cases h18 : s.toList = [116, 114, 117, 101]
 ·have HF : Hid (keptB s.toList = true) := by show _ = _; rw [h18]; decide
  have q18 : (s.toList == [116, 114, 117, 101]) = true := by simpa using h18
  clear h18
  go_enter Tryz.func74, Tryz.ntmps74
  go_wp2_with fail
  go_ret
  exact ⟨by rw [HF.out]; rfl, rfl⟩
 have q18 : (s.toList == [116, 114, 117, 101]) = false := by simpa using h18
 by_cases h19 : s.toList = [102, 97, 108, 115, 101]
 ·have HF : Hid (keptB s.toList = true) := by show _ = _; rw [h19]; decide
  have q19 : (s.toList == [102, 97, 108, 115, 101]) = true := by simpa using h19
  clear h19
  go_enter Tryz.func74, Tryz.ntmps74
  go_wp2_with fail
  go_ret
  exact ⟨by rw [HF.out]; rfl, rfl⟩
 have q19 : (s.toList == [102, 97, 108, 115, 101]) = false := by simpa using h19
 have HF : Hid (keptB s.toList = false) := by
  refine kept_no (fun w hw => ?_)
  unfold keptL at hw
  simp only [List.mem_cons, List.not_mem_nil, or_false] at hw
  rcases hw with rfl | rfl | rfl | rfl | rfl | rfl | rfl | rfl | rfl | rfl | rfl | rfl | rfl | rfl | rfl | rfl | rfl | rfl | rfl | rfl
  ·exact h0
  ·exact h1
  ·exact h2
  ·exact h3
  ·exact h4
  ·exact h5
  ·exact h6
  ·exact h7
  ·exact h8
  ·exact h9
  ·exact h10
  ·exact h11
  ·exact h12
  ·exact h13
  ·exact h14
  ·exact h15
  ·exact h16
  ·exact h17
  ·exact h18
  ·exact h19
 clear h0 h1 h2 h3 h4 h5 h6 h7 h8 h9 h10 h11 h12 h13 h14 h15 h16 h17 h18 h19
 go_enter Tryz.func74, Tryz.ntmps74
 go_wp2_with fail
 go_ret
 exact ⟨by rw [HF.out]; rfl, rfl⟩
set_option maxRecDepth 100000 in
set_option maxHeartbeats 4000000 in
theorem lnamed_any (s : ByteArray) (w : World) :
  Calls Tryz.prog 72 #[.string s, .func (Fn.func 73) #[] #[]] w fun e w' => e = .returned (.bool (namedB s.data.toList)) ∧ w' = w := by
 by_cases h0 : s.size = 0
 ·have hnil : s.data.toList = [] := by rw [Lib.size_eq] at h0; exact List.eq_nil_of_length_eq_zero h0
  have hem : s.toList.isEmpty = true := by rw [Lib.toList_data, hnil]; rfl
  have HF : Hid (namedB s.data.toList = false) := by show _ = _; rw [hnil]; rfl
  clear h0 hnil
  go_enter Tryz.func72, Tryz.ntmps72
  go_wp2_with fail
  go_ret
  exact ⟨by rw [HF.out]; rfl, rfl⟩
 have hsz : 0 < s.size := by omega
 have hbh : s.data.toList = s[0] :: s.data.toList.drop 1 := by
  have hl : 0 < s.data.toList.length := by rw [← Lib.size_eq]; exact hsz
  have := List.drop_eq_getElem_cons hl
  rw [List.drop_zero] at this
  exact this
 have hem : s.toList.isEmpty = false := by rw [Lib.toList_data, hbh]; rfl
 have hsi : (0 : Int) < (s.size : Int) := by omega
 by_cases h24 : 24 < s.size
 ·have q : decide ((24 : Int) < (s.size : Int)) = true := by simp; omega
  have HF : Hid (namedB s.data.toList = false) := by show _ = _; unfold namedB; rw [← Lib.size_eq, decide_eq_false (by omega)]; rfl
  clear h0 h24 hbh
  go_enter Tryz.func72, Tryz.ntmps72
  go_wp2_with fail
  go_ret
  exact ⟨by rw [HF.out]; rfl, rfl⟩
 have q : decide ((24 : Int) < (s.size : Int)) = false := by simp; omega
 have hs24 : s.size ≤ 24 := by omega
 have HLn : Hid (decide (s.data.toList.length ≤ 24) = true) := by show _ = _; rw [← Lib.size_eq]; exact decide_eq_true hs24
 obtain ⟨x, hx⟩ : ∃ x, s[0] = x := ⟨_, rfl⟩
 rw [hx] at hbh
 obtain ⟨r, hr⟩ : ∃ r, smallC x = r := ⟨_, rfl⟩
 have HH : Hid (headIs smallC s.data.toList = r) := by show _ = _; rw [hbh]; exact hr
 have HSm := Lib.hid (fun w => lsmall_as x r hr w)
 clear h0 h24 hbh hr
 cases r
 ·have HF : Hid (namedB s.data.toList = false) := by show _ = _; unfold namedB; rw [HH.out, Bool.and_false, Bool.false_and]
  go_enter Tryz.func72, Tryz.ntmps72
  go_wp2_with fail
  refine (HSm.out _).mono ?_
  rintro e w1 ⟨rfl, rfl⟩
  go_wp2_with fail
  go_ret
  exact ⟨by rw [HF.out]; rfl, rfl⟩
 go_enter Tryz.func72, Tryz.ntmps72
 go_wp2_with fail
 refine (HSm.out _).mono ?_
 rintro e w1 ⟨rfl, rfl⟩
 go_wp2_with fail
 go_loop [5, 22] (fun _ i => NmRel s i) (fun _ i => s.size - (intOf i).toNat)
 case atStart => exact ⟨0, Nat.zero_le _, rfl, rfl⟩
 case round =>
  obtain ⟨k, hk, rfl, hall⟩ := hrel
  have HA := Lib.hid hall
  clear hall
  by_cases hlt : k < s.size
  ·have i0 : (0 : Int) ≤ (k : Int) := by omega
   have i1 : (k : Int) < (s.size : Int) := by omega
   have HT := Lib.hid (take_byte s k hlt)
   obtain ⟨y, hy⟩ : ∃ y, s[k] = y := ⟨_, rfl⟩
   have HM : Hid (y ∈ s.data.toList) := by
    show _ ∈ _
    rw [← hy]
    have : k < s.data.toList.length := by rw [← Lib.size_eq]; exact hlt
    exact List.getElem_mem this
   rw [hy] at HT
   obtain ⟨r, hr⟩ : ∃ r, restC y = r := ⟨_, rfl⟩
   have HRs := Lib.hid (fun w => lrest_as y r hr w)
   have HRr := Lib.hid hr
   clear hr
   cases r
   ·have HF : Hid (namedB s.data.toList = false) := by
     show _ = _
     unfold namedB
     rw [Bool.and_eq_false_iff]
     right
     rw [List.all_eq_false]
     exact ⟨y, HM.out, by rw [HRr.out]; decide⟩
    go_wp2_with fail
    refine (HRs.out _).mono ?_
    rintro e w1 ⟨rfl, rfl⟩
    go_wp2_with fail
    go_ret
    exact ⟨by rw [HF.out]; rfl, rfl⟩
   ·go_wp2_with fail
    refine (HRs.out _).mono ?_
    rintro e w1 ⟨rfl, rfl⟩
    go_wp2_with fail
    go_round
    case rel => exact ⟨k + 1, by omega, by go_num, by rw [HT.out, List.all_append, HA.out]; simp [HRr.out]⟩
    case measure => simp [intOf]; omega
  ·have q2 : decide (k < s.size) = false := decide_eq_false hlt
   have HF : Hid (namedB s.data.toList = true) := by
    show _ = _
    have h := HA.out
    rw [List.take_of_length_le (by rw [← Lib.size_eq]; omega)] at h
    unfold namedB
    rw [HLn.out, HH.out, h]; rfl
   clear hlt
   go_wp2_with fail
   go_ret
   exact ⟨by rw [HF.out]; rfl, rfl⟩
set_option maxRecDepth 100000 in
theorem lname_any (s : ByteArray) (w : World) : Calls Tryz.prog 39 #[.string s] w fun e w' => e = .returned (.bool (nameOk s.data.toList)) ∧ w' = w := by
 obtain ⟨r, hr⟩ : ∃ r, namedB s.data.toList = r := ⟨_, rfl⟩
 have HN : Hid (nameOk s.data.toList = (r && !keptB s.data.toList)) := by show _ = _; rw [name_named, hr]
 have HC := lnamed_any s w
 rw [hr] at HC
 have HC := Lib.hid HC
 have HW := Lib.hid (lword_any s)
 obtain ⟨k, hk⟩ : ∃ k, keptB s.data.toList = k := ⟨_, rfl⟩
 rw [hk] at HN HW
 clear hr hk
 cases r
 ·go_enter Tryz.func39, Tryz.ntmps39
  go_wp2_with fail
  refine HC.out.mono ?_
  rintro e w1 ⟨rfl, rfl⟩
  go_wp2_with fail
  go_ret
  exact ⟨by rw [HN.out]; rfl, rfl⟩
 ·go_enter Tryz.func39, Tryz.ntmps39
  go_wp2_with fail
  refine HC.out.mono ?_
  rintro e w1 ⟨rfl, rfl⟩
  go_wp2_with fail
  refine (HW.out _).mono ?_
  rintro e w1 ⟨rfl, rfl⟩
  go_wp2_with fail
  go_ret
  exact ⟨by rw [HN.out]; rfl, rfl⟩
theorem lname_as (s : ByteArray) (r : Bool) (h : nameOk s.data.toList = r) (w : World) : Calls Tryz.prog 39 #[.string s] w fun e w' => e = .returned (.bool r) ∧ w' = w := by
 subst h; exact lname_any s w
end Go.Proofs.YtbgimpeklblcjaaGreatDoor
