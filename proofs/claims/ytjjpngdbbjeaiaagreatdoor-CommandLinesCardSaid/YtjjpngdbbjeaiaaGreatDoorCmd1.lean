/- The program's commands: fits: a walk. -/
import Derived.Test.YtjjpngdbbjeaiaaGreatDoorLex1
import Derived.Test.YtjjpngdbbjeaiaaGreatDoorSemProg3
import Derived.Test.YtjjpngdbbjeaiaaGreatDoorCmdMath
namespace Go
theorem steps_cases (l : List UInt8) : stepsOk l = (decide (1 ≤ l.length) && (decide (l.length ≤ 7) && (l.all Sem4.isDig && (decide (l = [48]) || decide (l.head? ≠ some 48))))) := by
  unfold stepsOk
  simp only [Bool.and_assoc]
end Go
namespace Go.Proofs.YtjjpngdbbjeaiaaGreatDoor
open Go.RowKit
set_option maxRecDepth 100000 in
set_option maxHeartbeats 4000000 in
theorem fitsN_any (s : ByteArray) (w : World) : Calls Tryz.prog 90 #[.string s, .int .u8 110] w fun e w' => e = .returned (.bool (nameOk s.data.toList)) ∧ Below w.heap.size w w' := by
  have H := Lib.hid (fun w => lname_any s w)
  obtain ⟨r, hr⟩ : ∃ r, nameOk s.data.toList = r := ⟨_, rfl⟩
  rw [hr] at H ⊢
  clear hr
  go_enter Tryz.func90, Tryz.ntmps90
  go_wp2_with fail
  refine (H.out _).mono ?_
  rintro e w1 ⟨rfl, rfl⟩
  go_wp2_with fail
  go_ret
  exact ⟨rfl, Below.refl _ _⟩
set_option maxRecDepth 100000 in
set_option maxHeartbeats 4000000 in
theorem fitsV_any (s : ByteArray) (w : World) (hE : Env w) (hs : s.size < 4294967281) : Calls Tryz.prog 90 #[.string s, .int .u8 118] w fun e w' => e = .returned (.bool (isVer s.data.toList)) ∧ Below w.heap.size w w' := by
  obtain ⟨r, hr⟩ : ∃ r, isVer s.data.toList = r := ⟨_, rfl⟩
  have HR := Lib.hid hr
  rw [hr]
  clear hr
  have HE := Lib.hid hE
  clear hE
  go_enter Tryz.func90, Tryz.ntmps90
  go_wp2_with fail
  refine (parse_any s _ HE.out hs).mono ?_
  rintro e w1 ⟨a, b, c, p, er, rfl, hp, hb1⟩
  have hq : (er == 0) = r := by
    rcases isVer_parse hp with ⟨h1, h2⟩ | ⟨h1, h2⟩
    · rw [h1, ← HR.out, h2]; rfl
    · rw [h1, ← HR.out, h2]; rfl
  have hb2 := hb1.alloc hb1.size (.cells #[.int .i64 a, .int .i64 b, .int .i64 c, .string (S p)] 23)
  clear hp
  go_wp2_with fail
  go_ret
  exact ⟨rfl, hb2⟩
set_option maxRecDepth 100000 in
set_option maxHeartbeats 4000000 in
theorem fitsS_any (s : ByteArray) (w : World) (hs : s.size ≤ 9223372036854775807) : Calls Tryz.prog 90 #[.string s, .int .u8 115] w fun e w' => e = .returned (.bool (stepsOk s.data.toList)) ∧ Below w.heap.size w w' := by
  by_cases h0 : s.size = 0
  · have hnil : s.data.toList = [] := by rw [Lib.size_eq] at h0; exact List.eq_nil_of_length_eq_zero h0
    have hem : s.toList.isEmpty = true := by rw [Lib.toList_data, hnil]; rfl
    have HF : Hid (stepsOk s.data.toList = false) := by show _ = _; rw [hnil]; rfl
    clear h0 hnil
    go_enter Tryz.func90, Tryz.ntmps90
    go_wp2_with fail
    go_ret
    exact ⟨by rw [HF.out]; rfl, Below.refl _ _⟩
  have hsz : 0 < s.size := by omega
  have hbh : s.data.toList = s[0] :: s.data.toList.drop 1 := by
    have hl : 0 < s.data.toList.length := by rw [← Lib.size_eq]; exact hsz
    have := List.drop_eq_getElem_cons hl
    rw [List.drop_zero] at this
    exact this
  have hem : s.toList.isEmpty = false := by rw [Lib.toList_data, hbh]; rfl
  have hsi : (0 : Int) < (s.size : Int) := by omega
  by_cases h7 : 7 < s.size
  · have q : decide ((s.size : Int) ≤ 7) = false := by simp; omega
    have q' : decide (s.size ≤ 7) = false := decide_eq_false (by omega)
    have HF : Hid (stepsOk s.data.toList = false) := by show _ = _; rw [steps_cases, ← Lib.size_eq, decide_eq_false (show ¬ s.size ≤ 7 by omega)]; simp
    clear h0 h7 hbh
    go_enter Tryz.func90, Tryz.ntmps90
    go_wp2_with fail
    go_ret
    exact ⟨by rw [HF.out]; rfl, Below.refl _ _⟩
  have q : decide ((s.size : Int) ≤ 7) = true := by simp; omega
  have q' : decide (s.size ≤ 7) = true := decide_eq_true (by omega)
  obtain ⟨x, hx⟩ : ∃ x, s[0] = x := ⟨_, rfl⟩
  rw [hx] at hbh
  obtain ⟨d, hd⟩ : ∃ d, s.data.toList.all Sem4.isDig = d := ⟨_, rfl⟩
  obtain ⟨z, hz⟩ : ∃ z, (s.toList == [48]) = z := ⟨_, rfl⟩
  obtain ⟨n, hn⟩ : ∃ n, ((x.toNat : Int) != 48) = n := ⟨_, rfl⟩
  have HF : Hid (stepsOk s.data.toList = (d && (z || n))) := by
    show _ = _
    rw [steps_cases, ← Lib.size_eq, decide_eq_true (show 1 ≤ s.size by omega), decide_eq_true (show s.size ≤ 7 by omega), hd]
    have e1 : decide (s.data.toList = [48]) = z := by
      rw [← hz, Lib.toList_data]
      by_cases h : s.data.toList = [48]
      · rw [h]; decide
      · rw [decide_eq_false h, beq_eq_false_iff_ne.2 h]
    have e2 : decide (s.data.toList.head? ≠ some 48) = n := by
      rw [← hn, hbh]
      by_cases h : x = 48
      · rw [h, List.head?_cons, decide_eq_false (show ¬ (some (48 : UInt8) ≠ some 48) from fun h => h rfl)]; decide
      · have h2 : (x.toNat : Int) ≠ 48 := fun e => h (UInt8.toNat_inj.1 (by show x.toNat = 48; omega))
        rw [decide_eq_true (show (x :: s.data.toList.drop 1).head? ≠ some 48 by simpa using h), bne_iff_ne.2 h2]
    rw [e1, e2]; simp
  have HT := Lib.hid (fun w => trim_any s w hs)
  have HD := Lib.hid hd
  clear h0 h7 hbh hd
  go_enter Tryz.func90, Tryz.ntmps90
  go_wp2_with fail
  refine (HT.out _).mono ?_
  rintro e w1 ⟨t, rfl, ht, hb1⟩
  rw [HD.out] at ht
  cases d
  · go_wp2_with fail
    go_ret
    exact ⟨by rw [HF.out]; rfl, hb1⟩
  cases z
  · cases n
    · go_wp2_with fail
      go_ret
      exact ⟨by rw [HF.out]; rfl, hb1⟩
    · go_wp2_with fail
      go_ret
      exact ⟨by rw [HF.out]; rfl, hb1⟩
  · go_wp2_with fail
    go_ret
    exact ⟨by rw [HF.out]; rfl, hb1⟩
/-- an argument of a kind -/
theorem fits_as (s : ByteArray) (kind : UInt8) (r : Bool) (hk : kind = 110 ∨ kind = 118 ∨ kind = 115) (h : fitsB s.data.toList kind = r) (w : World) (hE : Env w) (hs : s.size < 4294967281) :
    Calls Tryz.prog 90 #[.string s, .int .u8 (kind.toNat : Int)] w fun e w' => e = .returned (.bool r) ∧ Below w.heap.size w w' := by
  subst h
  rcases hk with rfl | rfl | rfl
  · exact fitsN_any s w
  · exact fitsV_any s w hE hs
  · exact fitsS_any s w (by omega)
end Go.Proofs.YtjjpngdbbjeaiaaGreatDoor
