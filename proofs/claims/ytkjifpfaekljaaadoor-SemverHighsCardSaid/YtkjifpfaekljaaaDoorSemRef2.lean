/- The reference of layer 4: order, texts, nonzero: walks. -/
import Derived.Test.YtkjifpfaekljaaaDoorSemRef1
namespace Go.Proofs.YtkjifpfaekljaaaDoor
open Go.RowKit
set_option maxHeartbeats 400000 in
theorem refOrder_any (a b : Int) (w : World) :
    Calls Tryd.prog 35 #[.int .i64 a, .int .i64 b] w fun e w' => e = .returned (.int .i64 (ord a b)) ∧ w = w' := by
  by_cases h1 : a < b
  · have HE : Hid (ord a b = -1) := by show _ = _; unfold ord; rw [if_pos h1]
    go_enter Tryd.func35, Tryd.ntmps35
    go_wp2
    go_ret
    exact ⟨by rw [HE.out]; rfl, rfl⟩
  by_cases h2 : b < a
  · have HE : Hid (ord a b = 1) := by show _ = _; unfold ord; rw [if_neg h1, if_pos h2]
    go_enter Tryd.func35, Tryd.ntmps35
    go_wp2
    go_ret
    exact ⟨by rw [HE.out]; rfl, rfl⟩
  · have HE : Hid (ord a b = 0) := by show _ = _; unfold ord; rw [if_neg h1, if_neg h2]
    go_enter Tryd.func35, Tryd.ntmps35
    go_wp2
    go_ret
    exact ⟨by rw [HE.out]; rfl, rfl⟩
set_option maxHeartbeats 400000 in
theorem refTexts_any (a b : ByteArray) (w : World) :
    Calls Tryd.prog 48 #[.string a, .string b] w fun e w' => e = .returned (.int .i64 (txt a.data.toList b.data.toList)) ∧ w = w' := by
  rw [← Lib.toList_data, ← Lib.toList_data]
  cases h1 : Op.bytesLess a.toList b.toList
  · cases h2 : (a.toList == b.toList)
    · have HE : Hid (txt a.toList b.toList = 1) := by show _ = _; unfold txt; rw [h1, h2]; rfl
      go_enter Tryd.func48, Tryd.ntmps48
      go_wp2
      go_ret
      exact ⟨by rw [HE.out]; rfl, rfl⟩
    · have HE : Hid (txt a.toList b.toList = 0) := by show _ = _; unfold txt; rw [h1, h2]; rfl
      go_enter Tryd.func48, Tryd.ntmps48
      go_wp2
      go_ret
      exact ⟨by rw [HE.out]; rfl, rfl⟩
  · have HE : Hid (txt a.toList b.toList = -1) := by show _ = _; unfold txt; rw [h1]; rfl
    go_enter Tryd.func48, Tryd.ntmps48
    go_wp2
    go_ret
    exact ⟨by rw [HE.out]; rfl, rfl⟩
def nonz (a b : List UInt8) : Int := if a.isEmpty && b.isEmpty then 0 else 1
set_option maxHeartbeats 400000 in
theorem refNonzero_any (a b : ByteArray) (w : World) :
    Calls Tryd.prog 36 #[.string a, .string b] w fun e w' => e = .returned (.int .i64 (nonz a.data.toList b.data.toList)) ∧ w = w' := by
  rw [← Lib.toList_data, ← Lib.toList_data]
  cases h1 : a.toList.isEmpty <;> cases h2 : b.toList.isEmpty
  all_goals
    have HE := Lib.hid (show nonz a.toList b.toList = _ by unfold nonz; rw [h1, h2])
    go_enter Tryd.func36, Tryd.ntmps36
    go_wp2
    go_ret
    exact ⟨by rw [HE.out]; rfl, rfl⟩
end Go.Proofs.YtkjifpfaekljaaaDoor
