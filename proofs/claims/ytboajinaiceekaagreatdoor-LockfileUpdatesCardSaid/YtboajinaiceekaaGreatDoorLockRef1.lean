/- Sums of bytes: the reference's: walks. -/
import Derived.Test.YtboajinaiceekaaGreatDoorCrc1
namespace Go.Crc
theorem inBit_one {m b : Nat} (h : m % 2 ≠ b % 2) : inBit m b = (m / 2) ^^^ poly := by unfold inBit; rw [if_pos h]
theorem inBit_two {m b : Nat} (h : m % 2 = b % 2) : inBit m b = m / 2 := by unfold inBit; rw [if_neg (by omega), Nat.xor_zero]
theorem run_nil (r : Nat) : run r [] = r := rfl
end Go.Crc
namespace Go.Proofs.YtboajinaiceekaaGreatDoor
open Go.RowKit
def InRel (r0 b : Nat) (r i : Value) : Prop := ∃ k m : Nat, k ≤ 8 ∧ i = .int .i64 (k : Int) ∧ Crc.inIter r0 b k = m ∧ r = .int .u32 (m : Int)
set_option maxRecDepth 100000 in
set_option maxHeartbeats 1000000 in
theorem rin_as (r : Nat) (h : r < 4294967296) (b : UInt8) (w : World) : Calls Tryz.prog 51 #[.int .u32 (r : Int), .int .u8 (b.toNat : Int)] w fun e w' => e = .returned (.int .u32 (Crc.byte r b : Int)) ∧ w' = w := by
  have hbl := b.toNat_lt
  go_enter Tryz.func51, Tryz.ntmps51
  go_wp2_with fail
  go_loop [0, 5] (fun v i => InRel r b.toNat v i) (fun _ i => 8 - (intOf i).toNat)
  case atStart => exact ⟨0, r, by omega, rfl, rfl, rfl⟩
  case round =>
    obtain ⟨k, m, hk, rfl, hm, rfl⟩ := hrel
    have hml : m < 4294967296 := by rw [← hm]; exact Crc.inIter_lt h k
    have HM := Lib.hid hm
    clear hm
    by_cases hlt : k < 8
    · have ho := bits_one m hml
      obtain ⟨c, hc⟩ : ∃ c, b.toNat / 2 ^ k = c := ⟨_, rfl⟩
      have hcl : c < 256 := by rw [← hc]; exact Nat.lt_of_le_of_lt (Nat.div_le_self _ _) hbl
      have hcI : (b.toNat : Int) / 2 ^ k = (c : Int) := by rw [← hc]; simp
      have hob := bits_one c (by omega)
      have HC := Lib.hid hc
      clear hc
      by_cases h2 : m % 2 = c % 2
      · have q1 : (((m : Int) % 2) != ((c : Int) % 2)) = false := by rw [bne_eq_false_iff_eq]; omega
        have hn := Crc.inBit_two h2
        have hd : (m : Int) / 2 = ((m / 2 : Nat) : Int) := by omega
        obtain ⟨d, hd2⟩ : ∃ d, m / 2 = d := ⟨_, rfl⟩
        rw [hd2] at hd hn
        have HN : Hid (Crc.inIter r b.toNat (k + 1) = d) := by show _ = _; rw [Crc.inIter, HM.out, HC.out]; exact hn
        clear hn hd2 h2
        go_wp2_with fail
        go_round
        case rel => exact ⟨k + 1, d, by omega, by go_num, HN.out, rfl⟩
        case measure => simp [intOf]; omega
      · have q1 : (((m : Int) % 2) != ((c : Int) % 2)) = true := by rw [bne_iff_ne]; omega
        have hn := Crc.inBit_one h2
        have hd := u32_xor_nat (m / 2) 2197175160 (by omega) (by decide)
        rw [show ((m / 2 : Nat) : Int) = (m : Int) / 2 by omega, show ((2197175160 : Nat) : Int) = 2197175160 from rfl] at hd
        obtain ⟨d, hd2⟩ : ∃ d, (m / 2) ^^^ 2197175160 = d := ⟨_, rfl⟩
        rw [hd2] at hd
        have HN : Hid (Crc.inIter r b.toNat (k + 1) = d) := by show _ = _; rw [Crc.inIter, HM.out, HC.out, hn, ← hd2]; rfl
        clear hn hd2 h2
        go_wp2_with fail
        go_round
        case rel => exact ⟨k + 1, d, by omega, by go_num, HN.out, rfl⟩
        case measure => simp [intOf]; omega
    · obtain rfl : k = 8 := by omega
      go_wp2_with fail
      go_ret
      exact ⟨by rw [← HM.out, Crc.in_byte]; rfl, rfl⟩
def RmRel (s : ByteArray) (r i : Value) : Prop := ∃ k m : Nat, k ≤ s.size ∧ i = .int .i64 (k : Int) ∧ Crc.run 4294967295 (s.data.toList.take k) = m ∧ r = .int .u32 (m : Int)
def RoRel (v : Nat) (r i : Value) : Prop := (i = .int .i64 0 ∧ r = .int .u32 4294967295) ∨ (i = .int .i64 1 ∧ r = .int .u32 (v : Int))
set_option maxRecDepth 100000 in
set_option maxHeartbeats 1000000 in
theorem rsum_as (s : ByteArray) (hs : s.size ≤ 100000) (w : World) (b : Nat) (hc : w.cell? ⟨b, 0, none⟩ = some (.string s)) :
    Calls Tryz.prog 27 #[.slice (some ⟨b, 0, none⟩) 1 1] w fun e w' => e = .returned (.int .u32 (Crc.sum s.data.toList : Int)) ∧ w' = w := by
  have hz := cell_lt hc
  have hsg : IntKind.u32.signed = false := rfl
  have hmx : IntKind.u32.max = 4294967295 := by decide
  obtain ⟨v, hv⟩ : ∃ v, Crc.run 4294967295 s.data.toList = v := ⟨_, rfl⟩
  have hvl : v < 4294967296 := by rw [← hv]; exact Crc.run_lt _ (by decide)
  have HV := Lib.hid hv
  clear hv
  go_enter Tryz.func27, Tryz.ntmps27
  go_wp2_with fail
  go_loop [3, 4] (fun r i => RoRel v r i) (fun _ i => 1 - (intOf i).toNat)
  case atStart => exact .inl ⟨rfl, rfl⟩
  case round =>
    rcases hrel with ⟨rfl, rfl⟩ | ⟨rfl, rfl⟩
    · go_wp2_with fail
      go_loop [3, 5] (fun r i => RmRel s r i) (fun _ i => s.size - (intOf i).toNat)
      case atStart => exact ⟨0, 4294967295, by omega, rfl, rfl, rfl⟩
      case round =>
        obtain ⟨k, m, hk, rfl, hm, rfl⟩ := hrel
        have hml : m < 4294967296 := by rw [← hm]; exact Crc.run_lt _ (by decide)
        have HM := Lib.hid hm
        clear hm
        by_cases hlt : k < s.size
        · go_wp2_with fail
          refine (rin_as m hml s[k] _).mono ?_
          rintro e w1 ⟨rfl, rfl⟩
          go_wp2_with fail
          go_round
          case rel => exact ⟨k + 1, Crc.byte m s[k], by omega, by go_num, by rw [Crc.run_snoc _ hlt, HM.out], rfl⟩
          case measure => simp [intOf]; omega
        · have hvm : v = m := by
            rw [← HM.out, ← HV.out, List.take_of_length_le (by rw [Array.length_toList]; show s.size ≤ k; omega)]
          subst hvm
          have q5 : decide (k < s.size) = false := decide_eq_false hlt
          clear hlt
          go_wp2_with fail
          go_round
          case rel => exact .inr ⟨rfl, rfl⟩
          case measure => simp [intOf]
    · have hn := not32 v hvl
      have HS : Hid (Crc.sum s.data.toList = 4294967295 - v) := by show _ = _; unfold Crc.sum; rw [HV.out]
      clear hc
      go_wp2_with fail
      go_ret
      exact ⟨by rw [HS.out]; rfl, rfl⟩
theorem rsum_new (s : ByteArray) (hs : s.size ≤ 100000) (w : World) (T : TypeId) :
    Calls Tryz.prog 27 #[.slice (some ⟨w.heap.size, 0, none⟩) 1 1] (w.alloc (.cells #[.string s] T)) fun e w' => e = .returned (.int .u32 (Crc.sum s.data.toList : Int)) ∧ w' = w.alloc (.cells #[.string s] T) :=
  rsum_as s hs _ _ (box_cells (Below.refl (w.heap.size + 1) _) 0)
end Go.Proofs.YtboajinaiceekaaGreatDoor
