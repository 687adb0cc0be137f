/- Sums of bytes: the program's: walks. -/
import Derived.Test.YtboajinaiceekaaGreatDoorCrcMath
import Derived.Test.YtboajinaiceekaaGreatDoorSemCom
import Derived.Test.YtboajinaiceekaaGreatDoorProg
import Derived.Laws.BitsAllLaws
namespace Go.Crc
theorem run_snoc {s : ByteArray} {k : Nat} (r : Nat) (h : k < s.size) : run r (s.data.toList.take (k + 1)) = byte (run r (s.data.toList.take k)) s[k] := by
  rw [take_byte s k h]
  unfold run
  rw [List.foldl_append]; rfl
end Go.Crc
namespace Go.Proofs.YtboajinaiceekaaGreatDoor
open Go.RowKit
theorem bits_one (m : Nat) (h : m < 4294967296) : bits .and .u32 (m : Int) 1 = ((m % 2 : Nat) : Int) := by
  have := u32_and_nat m 1 h (by decide)
  rw [Nat.and_one_is_mod] at this
  exact this
theorem bit_odd {m : Nat} (h : m < 4294967296) (ho : m % 2 = 1) : bits .xor .u32 ((m : Int) / 2) 2197175160 = (Crc.bit m : Int) := by
  have := u32_xor_nat (m / 2) 2197175160 (by omega) (by decide)
  rw [show ((m / 2 : Nat) : Int) = (m : Int) / 2 by omega] at this
  rw [show ((2197175160 : Nat) : Int) = 2197175160 from rfl] at this
  rw [this]
  unfold Crc.bit
  rw [if_pos ho]; rfl
theorem bit_even {m : Nat} (h : m < 4294967296) (ho : m % 2 = 0) : bits .xor .u32 ((m : Int) / 2) 0 = (Crc.bit m : Int) := by
  have := u32_xor_nat (m / 2) 0 (by omega) (by decide)
  rw [show ((m / 2 : Nat) : Int) = (m : Int) / 2 by omega] at this
  rw [show ((0 : Nat) : Int) = 0 from rfl] at this
  rw [this]
  unfold Crc.bit
  rw [if_neg (by omega)]
def StRel (r0 : Nat) (r i : Value) : Prop := ∃ k m : Nat, k ≤ 8 ∧ i = .int .i64 (k : Int) ∧ Crc.iter k r0 = m ∧ r = .int .u32 (m : Int)
set_option maxRecDepth 100000 in
set_option maxHeartbeats 1000000 in
theorem step_as (r : Nat) (h : r < 4294967296) (w : World) : Calls Tryz.prog 80 #[.int .u32 (r : Int)] w fun e w' => e = .returned (.int .u32 (Crc.iter 8 r : Int)) ∧ w' = w := by
  have hb1 : bits .and .u32 2197175160 4294967295 = 2197175160 := by decide
  have hb0 : bits .and .u32 2197175160 0 = 0 := by decide
  go_enter Tryz.func80, Tryz.ntmps80
  go_wp2_with fail
  go_loop [0, 3, 4] (fun v _ i => StRel r v i) (fun _ _ i => 8 - (intOf i).toNat)
  case atStart => exact ⟨0, r, by omega, rfl, rfl, rfl⟩
  case round =>
    obtain ⟨k, m, hk, rfl, hm, rfl⟩ := hrel
    have hml : m < 4294967296 := by rw [← hm]; exact Crc.iter_lt h k
    have HM := Lib.hid hm
    clear hm
    by_cases hlt : k < 8
    · have ho := bits_one m hml
      rcases Nat.mod_two_eq_zero_or_one m with h2 | h2
      · have hx := bit_even hml h2
        rw [h2] at ho
        obtain ⟨b, hb⟩ : ∃ b, Crc.bit m = b := ⟨_, rfl⟩
        rw [hb] at hx
        have HB := Lib.hid hb
        clear hb
        go_wp2_with fail
        go_round
        case rel => exact ⟨k + 1, b, by omega, by go_num, by rw [Crc.iter, HM.out, HB.out], rfl⟩
        case measure => simp [intOf]; omega
      · have hx := bit_odd hml h2
        rw [h2] at ho
        obtain ⟨b, hb⟩ : ∃ b, Crc.bit m = b := ⟨_, rfl⟩
        rw [hb] at hx
        have HB := Lib.hid hb
        clear hb
        go_wp2_with fail
        go_round
        case rel => exact ⟨k + 1, b, by omega, by go_num, by rw [Crc.iter, HM.out, HB.out], rfl⟩
        case measure => simp [intOf]; omega
    · obtain rfl : k = 8 := by omega
      go_wp2_with fail
      go_ret
      exact ⟨by rw [HM.out]; rfl, rfl⟩
theorem xor_ones32 (b : Nat) (hb : b < 2 ^ 32) : (2 ^ 32 - 1) ^^^ b = 2 ^ 32 - 1 - b := by
  apply Nat.eq_of_testBit_eq
  intro i
  rw [Nat.testBit_xor, Nat.testBit_two_pow_sub_one, show 2 ^ 32 - 1 - b = 2 ^ 32 - (b + 1) by omega, Nat.testBit_two_pow_sub_succ hb]
  by_cases hi : i < 32
  · simp [hi]
  · have : b.testBit i = false := Nat.testBit_lt_two_pow (Nat.lt_of_lt_of_le hb (Nat.pow_le_pow_right (by decide) (by omega)))
    simp [hi, this]
theorem not32 (m : Nat) (h : m < 4294967296) : bits .xor .u32 4294967295 (m : Int) = ((4294967295 - m : Nat) : Int) := by
  have := u32_xor_nat 4294967295 m (by decide) h
  rw [show ((4294967295 : Nat) : Int) = 4294967295 from rfl] at this
  rw [this]
  have h2 := xor_ones32 m h
  rw [show (2 : Nat) ^ 32 - 1 = 4294967295 by decide] at h2
  rw [h2]
def MoRel (s : ByteArray) (r0 : Nat) (r i : Value) : Prop := ∃ k m : Nat, k ≤ s.size ∧ i = .int .i64 (k : Int) ∧ Crc.run r0 (s.data.toList.take k) = m ∧ r = .int .u32 (m : Int)
set_option maxRecDepth 100000 in
set_option maxHeartbeats 1000000 in
theorem more_as (s : ByteArray) (hs : s.size ≤ 100000) (w : World) : Calls Tryz.prog 47 #[.int .u32 0, .string s] w fun e w' => e = .returned (.int .u32 (Crc.sum s.data.toList : Int)) ∧ w' = w := by
  have hsg : IntKind.u32.signed = false := rfl
  have hmx : IntKind.u32.max = 4294967295 := by decide
  have hn0 : bits .xor .u32 4294967295 0 = 4294967295 := by decide
  go_enter Tryz.func47, Tryz.ntmps47
  go_wp2_with fail
  go_loop [5, 11] (fun r i => MoRel s 4294967295 r i) (fun _ i => s.size - (intOf i).toNat)
  case atStart => exact ⟨0, 4294967295, by omega, rfl, rfl, rfl⟩
  case round =>
    obtain ⟨k, m, hk, rfl, hm, rfl⟩ := hrel
    have hml : m < 4294967296 := by rw [← hm]; exact Crc.run_lt _ (by decide)
    have HM := Lib.hid hm
    clear hm
    by_cases hlt : k < s.size
    · have hb : s[k].toNat < 4294967296 := by have := s[k].toNat_lt; omega
      have hx := u32_xor_nat m s[k].toNat hml hb
      obtain ⟨x, hxe⟩ : ∃ x, m ^^^ s[k].toNat = x := ⟨_, rfl⟩
      rw [hxe] at hx
      have hxl : x < 4294967296 := by rw [← hxe]; exact Nat.xor_lt_two_pow (n := 32) hml hb
      have HX := Lib.hid hxe
      clear hxe
      go_wp2_with fail
      refine (step_as x hxl _).mono ?_
      rintro e w1 ⟨rfl, rfl⟩
      go_wp2_with fail
      go_round
      case rel => exact ⟨k + 1, Crc.iter 8 x, by omega, by go_num, by rw [Crc.run_snoc _ hlt, HM.out, Crc.byte, HX.out], rfl⟩
      case measure => simp [intOf]; omega
    · obtain rfl : k = s.size := by omega
      have hn := not32 m hml
      go_wp2_with fail
      go_ret
      refine ⟨?_, rfl⟩
      have hl : s.data.toList.take s.size = s.data.toList := List.take_of_length_le (by rw [Array.length_toList]; exact Nat.le_refl _)
      have hs2 : Crc.sum s.data.toList = 4294967295 - m := by
        unfold Crc.sum
        rw [← HM.out, hl]
      rw [hs2]
      rfl
end Go.Proofs.YtboajinaiceekaaGreatDoor
