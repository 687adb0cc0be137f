/- Numbers as bytes: width, Number: walks. -/
import Derived.Test.YtlhpgkaffbgkgaaGreatDoorOctMath
import Derived.Test.YtlhpgkaffbgkgaaGreatDoorCells
import Derived.Test.YtlhpgkaffbgkgaaGreatDoorShelf
namespace Go.Proofs.YtlhpgkaffbgkgaaGreatDoor
open Go.RowKit Go.Oct
theorem info_u8 : (Tryz.prog.info? 5).map (fun i => (i.zero, i.size, i.bytes)) = some (some (.int .u8 0), 1, 1) := by kernel_rfl
set_option maxRecDepth 100000 in
theorem width_as (n : Nat) (h : n < 18446744073709551616) (w : World) : Calls Tryz.prog 67 #[.int .u64 (n : Int)] w fun e w' => e = .returned (.int .i64 (bw n : Int)) ∧ w' = w := by
  have HB := Lib.hid (bit_bw h)
  have hl := bw_le n
  have hbl : Lib.bitLen n ≤ 64 := Lib.bitLen_le n 64 (by omega) h
  have hq : ((Lib.bitLen n : Int) + 7) / 8 = (bw n : Int) := by have := HB.out; omega
  go_enter Tryz.func67, Tryz.ntmps67
  go_wp2_with (go_at_call 85; go_must (refine (Tryz.bits_Len64 _ _ (by omega) (by omega)).mono ?_); rintro e w1 ⟨rfl, rfl⟩)
  go_ret
  exact ⟨congrArg (fun x => Ending.returned (.int .i64 x)) hq, rfl⟩
def NumPost (n : Nat) (w : World) (e : Ending) (w' : World) : Prop := e = .returned (.string (S (numL n))) ∧ Below w.heap.size w w'
theorem own_one (w : World) (v : Value) (e : TypeId) : (w.alloc (.cells #[v] e)).ownsRow w.heap.size e 1 (.slice (some ⟨w.heap.size, 0, none⟩) 1 1) 1 [v] :=
  ⟨rfl, .inr ⟨w.heap.size, 1, _, rfl, Nat.le_refl _, Below_heap_new w _, Nat.le_refl _, by decide, rfl, rfl⟩⟩
theorem made9 : madeCells (Value.int IntKind.u8 0).cells (Int.toNat 9 * 1) = #[.int .u8 0, .int .u8 0, .int .u8 0, .int .u8 0, .int .u8 0, .int .u8 0, .int .u8 0, .int .u8 0, .int .u8 0] := by kernel_rfl
def nRow (n m : Nat) : List UInt8 := UInt8.ofNat (247 + bw n) :: beL m (n / 256 ^ (bw n - m))
theorem nRow_length (n m : Nat) : (nRow n m).length = m + 1 := by simp [nRow, beL_length]
theorem nRow_succ {n m : Nat} (h : m < bw n) : nRow n (m + 1) = nRow n m ++ [UInt8.ofNat (n / 256 ^ (bw n - 1 - m) % 256)] := by
  unfold nRow
  rw [beL, Nat.div_div_eq_div_mul, ← Nat.pow_succ, show (bw n - (m + 1)).succ = bw n - m by omega, show bw n - (m + 1) = bw n - 1 - m by omega, List.cons_append]
def ONRel (n : Nat) (w : World) (v i : Value) (wr : World) : Prop :=
  ∃ m : Nat, m ≤ bw n ∧ i = .int .i64 ((bw n : Int) - 1 - (m : Int)) ∧ wr.ownsRow w.heap.size 5 1 v (m + 1) (bytesV (nRow n m)) ∧ Below w.heap.size w wr
theorem own_nine (w : World) (x : Value) (e : TypeId) : (w.alloc (.cells #[x, .int .u8 0, .int .u8 0, .int .u8 0, .int .u8 0, .int .u8 0, .int .u8 0, .int .u8 0, .int .u8 0] e)).ownsRow w.heap.size e 1 (.slice (some ⟨w.heap.size, 0, none⟩) 1 9) 1 [x] :=
  ⟨rfl, .inr ⟨w.heap.size, 9, _, rfl, Nat.le_refl _, Below_heap_new w _, by decide, by decide, rfl, rfl⟩⟩
theorem shift_byte (n j : Nat) : n / 2 ^ (8 * j) = n / 256 ^ j := by rw [Nat.pow_mul]
theorem make9 (w : World) : (Instr.makeSlice 72 (.int .i64 1) (.int .i64 9)).run Tryz.prog w = .ok (.slice (some ⟨w.heap.size, 0, none⟩) 1 9) (w.alloc (.cells #[.int .u8 0, .int .u8 0, .int .u8 0, .int .u8 0, .int .u8 0, .int .u8 0, .int .u8 0, .int .u8 0, .int .u8 0] 5)) := by
  obtain ⟨i0, hi, hz0, hz1, hz2⟩ := info_parts info_u8
  have h := run_make (P := Tryz.prog) w 72 5 i0 (.int .u8 0) Tryz.underlying72 hi hz0 .i64 .i64 1 9 (by decide) (by decide) (by rw [hz2]; decide) (by decide)
  rw [h, hz1, made9]
  rfl
set_option maxRecDepth 100000 in
set_option maxHeartbeats 4000000 in
theorem number_as (n : Nat) (h : n < 18446744073709551616) (w : World) : Calls Tryz.prog 42 #[.int .u64 (n : Int)] w (NumPost n w) := by
  obtain ⟨i0, hi, hz0, hz1, hz2⟩ := info_parts info_u8
  by_cases h1 : n ≤ 247
  · have q : decide ((n : Int) < 248) = true := by simp; omega
    have hu : (UInt8.ofNat n).toNat = n := by simp; omega
    have hc : (convert 72 9 (.slice (some ⟨w.heap.size, 0, none⟩) 1 1)).run Tryz.prog (w.alloc (.cells #[.int .u8 (n : Int)] 5)) = .ok (.string (S [UInt8.ofNat n])) (w.alloc (.cells #[.int .u8 (n : Int)] 5)) :=
      conv_own (P := Tryz.prog) Tryz.underlying72 Tryz.underlying5 Tryz.underlying9 (B := w.heap.size) (e' := 5) (n := 1) (by show World.ownsRow _ _ _ _ _ _ [Value.int .u8 ((UInt8.ofNat n).toNat : Int)]; rw [hu]; exact own_one w _ _)
    have HN := Lib.hid (show numL n = [UInt8.ofNat n] by unfold numL; rw [if_pos h1])
    go_enter Tryz.func42, Tryz.ntmps42
    go_wp2_with fail
    go_ret
    exact ⟨by rw [HN.out]; rfl, (Below.refl _ _).alloc (Nat.le_refl _) _⟩
  · have q : decide ((n : Int) < 248) = false := by simp; omega
    have hl := bw_le n
    have hg := (bw_ge h (by omega)).1
    have hmk := make9
    go_enter Tryz.func42, Tryz.ntmps42
    go_wp2_with (go_at_call 67; go_must (refine (width_as n h _).mono ?_); rintro e w1 ⟨rfl, rfl⟩)
    have HU := Lib.hid (show (UInt8.ofNat (247 + bw n)).toNat = 247 + bw n by simp; omega)
    have HN := Lib.hid (show numL n = nRow n (bw n) by unfold numL nRow; rw [if_neg h1, Nat.sub_self, Nat.pow_zero, Nat.div_one])
    go_loopw [4, 5] (fun v i wr => ONRel n w1 v i wr) (fun _ i _ => (intOf i + 1).toNat)
    case atStart => exact ⟨0, Nat.zero_le _, by go_num, by show World.ownsRow _ _ _ _ _ _ [Value.int .u8 ((UInt8.ofNat (247 + bw n)).toNat : Int)]; rw [HU.out]; exact own_nine w1 _ _, (Below.refl _ _).alloc (Nat.le_refl _) _⟩
    case round =>
      obtain ⟨m, hm, rfl, hown, hbw⟩ := hrel
      have HO := Lib.hid hown
      have hzw := hbw.size
      clear hown
      by_cases hlt : m < bw n
      · have hb : ((UInt8.ofNat (n / 256 ^ (bw n - 1 - m) % 256)).toNat : Int) = (n : Int) / 2 ^ (8 * (bw n - 1 - m)) % 256 := by
          have : (UInt8.ofNat (n / 256 ^ (bw n - 1 - m) % 256)).toNat = n / 256 ^ (bw n - 1 - m) % 256 := by simp
          rw [this, ← shift_byte]; simp
        have HB := Lib.hid hb
        have HL := Lib.hid hlt
        clear hb
        go_wp2_with (at_builtin; go_must (refine wpList_append_own _ rfl _ _ 72 rfl w1.heap.size 5 i0 (.int .u8 0) 1 1 Tryz.underlying72 hi hz0 hz1 hz2 rfl (by decide) _ _ _ rfl (HO.out.alloc _) ⟨_, 0, none⟩ 1 1 [.int .u8 ((n : Int) / 2 ^ (8 * (bw n - 1 - m)) % 256)] rfl rfl ?c1 ?c2 ?c3 ?c4 ?c5 ?_))
        case c1 => exact cell_one_new _ _ _
        case c2 => intro u hu; simp at hu; subst hu; rfl
        case c3 => unfold maxLen; omega
        case c4 => omega
        case c5 => simp; omega
        intro v' w2 hown2 hg2 _
        have hb3 := below_grown (hbw.alloc hzw _) (HO.out.alloc _) hg2 (by simp; omega)
        have HO2 := Lib.hid hown2
        clear hg2 hown2
        go_wp2_with fail
        go_roundw
        case rel =>
          refine ⟨m + 1, by omega, by go_num, ?_, hb3⟩
          have h := HO2.out
          rw [← HB.out] at h
          rw [nRow_succ HL.out, bytesV_append]
          exact h
        case measure => simp [intOf]; omega
      · obtain rfl : m = bw n := by omega
        have hk2 := conv_own (P := Tryz.prog) Tryz.underlying72 Tryz.underlying5 Tryz.underlying9 HO.out
        go_wp2_with fail
        go_ret
        exact ⟨by rw [HN.out]; rfl, hbw⟩
def TextPost (s : ByteArray) (w : World) (e : Ending) (w' : World) : Prop := e = .returned (.string (S (textL s.data.toList))) ∧ Below w.heap.size w w'
set_option maxRecDepth 100000 in
theorem otext_as (s : ByteArray) (hs : s.size ≤ 100000) (w : World) : Calls Tryz.prog 43 #[.string s] w (TextPost s w) := by
  have hz := numL_len9 s.size
  have hsl : (S (numL s.size)).size = (numL s.size).length := by show (numL s.size).toArray.size = _; simp
  have HT := Lib.hid (show S (numL s.size) ++ s = S (textL s.data.toList) by unfold textL S; rw [← Lib.size_eq]; apply ByteArray.ext; simp)
  go_enter Tryz.func43, Tryz.ntmps43
  go_wp2_with (go_at_call 42; go_must (refine (number_as s.size (by omega) _).mono ?_); rintro e w1 ⟨rfl, hb1⟩)
  go_ret
  exact ⟨by rw [HT.out]; rfl, hb1⟩
end Go.Proofs.YtlhpgkaffbgkgaaGreatDoor
