/- The reference of layer 4: digits, order, texts, nonzero: walks. -/
import Derived.Test.YtkjifpfaekljaaaDoorProg
import Derived.Test.YtkjifpfaekljaaaDoorBase
import Derived.Test.YtkjifpfaekljaaaDoorSemMath4
import Derived.Test.YtkjifpfaekljaaaDoorRows1
import Derived.Deep.LoopGhost
import Derived.Lib.Hide
namespace Go.Proofs.YtkjifpfaekljaaaDoor
open Go.RowKit
theorem toList_empty (s : ByteArray) : s.toList.isEmpty = s.data.toList.isEmpty := by rw [Lib.toList_data]
theorem take_byte (s : ByteArray) (k : Nat) (h : k < s.size) : s.data.toList.take (k + 1) = s.data.toList.take k ++ [s[k]] := by
  rw [List.take_succ_eq_append_getElem (by simpa using h)]; rfl
def DigRel (s : ByteArray) (i : Value) : Prop := ∃ k : Nat, k ≤ s.size ∧ i = .int .i64 (k : Int) ∧ (s.data.toList.take k).all Sem4.isDig = true
set_option maxRecDepth 100000 in
set_option maxHeartbeats 1000000 in
theorem refDigits_any (s : ByteArray) (w : World) (hs : s.size ≤ 9223372036854775807) :
    Calls Tryd.prog 44 #[.string s] w fun e w' => e = .returned (.bool (Sem4.digits s.data.toList)) ∧ w = w' := by
  go_enter Tryd.func44, Tryd.ntmps44
  go_wp2_with fail
  go_loop [3] (fun i => DigRel s i) (fun i => s.size - (intOf i).toNat)
  case atStart => exact ⟨0, Nat.zero_le _, rfl, rfl⟩
  case round =>
    obtain ⟨k, hk, rfl, hall⟩ := hrel
    have HA := Lib.hid hall
    clear hall
    by_cases hlt : k < s.size
    · have HT := Lib.hid (take_byte s k hlt)
      obtain ⟨x, hx⟩ : ∃ x, s[k] = x := ⟨_, rfl⟩
      rw [hx] at HT
      by_cases hd : Sem4.isDig x = true
      · have h1 : 48 ≤ x.toNat ∧ x.toNat ≤ 57 := by simpa [Sem4.isDig] using hd
        have q1 : decide ((x.toNat : Int) < 48) = false := by simp; omega
        have q2 : decide ((57 : Int) < (x.toNat : Int)) = false := by simp; omega
        have HD := Lib.hid hd
        clear hd h1
        go_wp2_with fail
        go_round
        case rel => exact ⟨k + 1, by omega, by go_num, by rw [HT.out, List.all_append, HA.out]; simp [HD.out]⟩
        case measure => simp [intOf]; omega
      · have HE : Hid (Sem4.digits s.data.toList = false) := by
          show _ = _
          unfold Sem4.digits
          rw [Bool.and_eq_false_iff]
          right
          rw [List.all_eq_false]
          refine ⟨x, ?_, by simpa using hd⟩
          have : x ∈ s.data.toList.take (k + 1) := by rw [HT.out]; simp
          exact List.mem_of_mem_take this
        have h1 : x.toNat < 48 ∨ 57 < x.toNat := by
          have : ¬ (48 ≤ x.toNat ∧ x.toNat ≤ 57) := by simpa [Sem4.isDig] using hd
          omega
        by_cases h2 : x.toNat < 48
        · have q1 : decide ((x.toNat : Int) < 48) = true := by simp; omega
          clear hd h1 h2
          go_wp2_with fail
          go_ret
          exact ⟨by rw [HE.out]; rfl, rfl⟩
        · have q1 : decide ((x.toNat : Int) < 48) = false := by simp; omega
          have q2 : decide ((57 : Int) < (x.toNat : Int)) = true := by simp; omega
          clear hd h1 h2
          go_wp2_with fail
          go_ret
          exact ⟨by rw [HE.out]; rfl, rfl⟩
    · obtain rfl : k = s.size := by omega
      have HE : Hid (Sem4.digits s.data.toList = !s.toList.isEmpty) := by
        show _ = _
        have := HA.out
        rw [List.take_of_length_le (by rw [← Lib.size_eq]; exact Nat.le_refl _)] at this
        unfold Sem4.digits
        rw [this, toList_empty]; simp
      go_wp2_with fail
      go_ret
      exact ⟨by rw [HE.out]; rfl, rfl⟩
end Go.Proofs.YtkjifpfaekljaaaDoor
