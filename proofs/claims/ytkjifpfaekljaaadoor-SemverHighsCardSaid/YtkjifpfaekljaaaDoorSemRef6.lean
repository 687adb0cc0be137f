/- The reference of layer 4: Digits: a walk. -/
import Derived.Test.YtkjifpfaekljaaaDoorSemRef5
namespace Go.Proofs.YtkjifpfaekljaaaDoor
open Go.RowKit
theorem digit_at (d : Nat) (h : d < 10) : (⟨#[48, 49, 50, 51, 52, 53, 54, 55, 56, 57]⟩ : ByteArray).extract d (d + 1) = S [UInt8.ofNat (48 + d)] := by
  have : d = 0 ∨ d = 1 ∨ d = 2 ∨ d = 3 ∨ d = 4 ∨ d = 5 ∨ d = 6 ∨ d = 7 ∨ d = 8 ∨ d = 9 := by omega
  rcases this with rfl | rfl | rfl | rfl | rfl | rfl | rfl | rfl | rfl | rfl <;> decide +kernel
def DRel (N : Nat) (n v : Value) : Prop := ∃ (m : Nat) (out : ByteArray), m ≤ N ∧ n = .int .i64 (m : Int) ∧ v = .string out ∧ out.size ≤ 1000001 - m ∧ dig10 N = (if m < 10 then [] else dig10 (m / 10)) ++ out.data.toList
theorem dig_step (m : Nat) : (if m < 10 then [] else dig10 (m / 10)) ++ [UInt8.ofNat (48 + m % 10)] = dig10 m := by
  by_cases h : m < 10
  · rw [if_pos h, dig10_lt m h, Nat.mod_eq_of_lt h]; rfl
  · rw [if_neg h, ← dig10_ge m (by omega)]
set_option maxRecDepth 100000 in
set_option maxHeartbeats 1000000 in
theorem refNum_any (N : Nat) (w : World) (hN : N ≤ 999999) :
    Calls Tryd.prog 28 #[.int .i64 (N : Int)] w fun e w' => e = .returned (.string (S (dig10 N))) ∧ w = w' := by
  have HD0 := Lib.hid (digit_at (N % 10) (Nat.mod_lt _ (by decide)))
  go_enter Tryd.func28, Tryd.ntmps28
  go_wp2_with fail
  go_loop [0, 3, 4] (fun n _ v => DRel N n v) (fun n _ _ => (intOf n).toNat)
  case atStart => exact ⟨N, _, Nat.le_refl _, rfl, rfl, by rw [HD0.out, S_size]; simp; omega, by rw [HD0.out, S_data, dig_step]⟩
  case round =>
    obtain ⟨m, out, hm, rfl, rfl, hsz, hdig⟩ := hrel
    have HG := Lib.hid hdig
    clear hdig
    by_cases hlt : m < 10
    · have q1 : decide ((10 : Int) ≤ (m : Int)) = false := by simp; omega
      have HE : Hid (out = S (dig10 N)) := by
        show _ = _
        rw [HG.out, if_pos hlt, List.nil_append]; rfl
      clear hlt
      go_wp2_with fail
      go_ret
      exact ⟨by rw [← HE.out]; rfl, rfl⟩
    · have q1 : decide ((10 : Int) ≤ (m : Int)) = true := by simp; omega
      have hlt' : 10 ≤ m := by omega
      obtain ⟨t, ht⟩ : ∃ t, t = m / 10 := ⟨_, rfl⟩
      have HD := Lib.hid (digit_at (m / 10 % 10) (Nat.mod_lt _ (by decide)))
      have HS := Lib.hid (dig_step (m / 10))
      have hx : ((⟨#[48, 49, 50, 51, 52, 53, 54, 55, 56, 57]⟩ : ByteArray).extract (m / 10 % 10) (m / 10 % 10 + 1)).size ≤ 1 := by rw [HD.out, S_size]; simp
      clear ht hlt
      go_wp2_with fail
      go_round
      case rel =>
        refine ⟨m / 10, _, by omega, by go_num, rfl, ?_, ?_⟩
        · rw [HD.out, ByteArray.size_append, S_size]; simp; omega
        · rw [HD.out, ByteArray.data_append, Array.toList_append, S_data, ← List.append_assoc, HS.out, HG.out, if_neg (by omega)]
      case measure => simp [intOf]; omega
end Go.Proofs.YtkjifpfaekljaaaDoor
