/- The reference of layer 4: parts: a walk. -/
import Derived.Test.YtkjifpfaekljaaaDoorSemRef6
namespace Go.Proofs.YtkjifpfaekljaaaDoor
open Go.RowKit
def PadRel (l : List UInt8) (n : Nat) (v : Value) : Prop := ∃ j : Nat, j ≤ n - l.length ∧ v = .string (S (List.replicate j 48 ++ l))
theorem texts_as (a b : List UInt8) (w : World) : Calls Tryd.prog 48 #[.string (S a), .string (S b)] w fun e w' => e = .returned (.int .i64 (txt a b)) ∧ w = w' := refTexts_any (S a) (S b) w
theorem zero_app (l : List UInt8) (j : Nat) : (⟨#[48]⟩ : ByteArray) ++ S (List.replicate j 48 ++ l) = S (List.replicate (j + 1) 48 ++ l) := by
  rw [show (⟨#[48]⟩ : ByteArray) = S [48] from rfl, S_append, List.replicate_succ]; rfl
set_option maxRecDepth 100000 in
set_option maxHeartbeats 1000000 in
theorem refPartsCmp_any (a b : List UInt8) (w : World) (ha : a.length ≤ 100000) (hb : b.length ≤ 100000) :
    Calls Tryd.prog 37 #[.string (S a), .string (S b)] w fun e w' => e = .returned (.int .i64 (partsCmp a b)) ∧ w = w' := by
  have za : (S a).size ≤ 9223372036854775807 := by rw [S_size]; omega
  have zb : (S b).size ≤ 9223372036854775807 := by rw [S_size]; omega
  cases hA : Sem4.digits a <;> cases hB : Sem4.digits b
  · have HA : Hid (Sem4.digits (S a).data.toList = false) := hA
    have HB : Hid (Sem4.digits (S b).data.toList = false) := hB
    have HE : Hid (partsCmp a b = txt a b) := by show _ = _; unfold partsCmp; rw [hA, hB]; rfl
    clear hA hB
    go_enter Tryd.func37, Tryd.ntmps37
    go_wp2_with fail
    refine (digits_as _ false HA.out _ za).mono ?_
    rintro e w1 ⟨rfl, rfl⟩
    go_wp2_with fail
    refine (digits_as _ false HB.out _ zb).mono ?_
    rintro e w1 ⟨rfl, rfl⟩
    go_wp2_with (go_at_call 48; go_must (refine (texts_as _ _ _).mono ?_); rintro e w1 ⟨rfl, rfl⟩)
    go_ret
    exact ⟨by rw [HE.out]; rfl, rfl⟩
  · have HA : Hid (Sem4.digits (S a).data.toList = false) := hA
    have HB : Hid (Sem4.digits (S b).data.toList = true) := hB
    have HE : Hid (partsCmp a b = 1) := by show _ = _; unfold partsCmp; rw [hA, hB]; rfl
    clear hA hB
    go_enter Tryd.func37, Tryd.ntmps37
    go_wp2_with fail
    refine (digits_as _ false HA.out _ za).mono ?_
    rintro e w1 ⟨rfl, rfl⟩
    go_wp2_with fail
    refine (digits_as _ true HB.out _ zb).mono ?_
    rintro e w1 ⟨rfl, rfl⟩
    go_wp2_with fail
    go_ret
    exact ⟨by rw [HE.out]; rfl, rfl⟩
  · have HA : Hid (Sem4.digits (S a).data.toList = true) := hA
    have HB : Hid (Sem4.digits (S b).data.toList = false) := hB
    have HE : Hid (partsCmp a b = -1) := by show _ = _; unfold partsCmp; rw [hA, hB]; rfl
    clear hA hB
    go_enter Tryd.func37, Tryd.ntmps37
    go_wp2_with fail
    refine (digits_as _ true HA.out _ za).mono ?_
    rintro e w1 ⟨rfl, rfl⟩
    go_wp2_with fail
    refine (digits_as _ false HB.out _ zb).mono ?_
    rintro e w1 ⟨rfl, rfl⟩
    go_wp2_with fail
    go_ret
    exact ⟨by rw [HE.out]; rfl, rfl⟩
  · have HA : Hid (Sem4.digits (S a).data.toList = true) := hA
    have HB : Hid (Sem4.digits (S b).data.toList = true) := hB
    have HE : Hid (partsCmp a b = txt (pad b.length a) (pad a.length b)) := by show _ = _; unfold partsCmp; rw [hA, hB]; rfl
    clear hA hB
    go_enter Tryd.func37, Tryd.ntmps37
    go_wp2_with fail
    refine (digits_as _ true HA.out _ za).mono ?_
    rintro e w1 ⟨rfl, rfl⟩
    go_wp2_with fail
    refine (digits_as _ true HB.out _ zb).mono ?_
    rintro e w1 ⟨rfl, rfl⟩
    go_wp2_with fail
    go_loop [0] (fun v => PadRel a b.length v) (fun v => b.length - (match v with | .string s => s.size | _ => 0))
    case atStart => exact ⟨0, Nat.zero_le _, rfl⟩
    case round =>
      obtain ⟨j, hj, rfl⟩ := hrel
      have hz : (S (List.replicate j 48 ++ a)).size = j + a.length := by rw [S_size]; simp
      have hz1 : (S (List.replicate j 48 ++ a)).size ≤ j + a.length := by omega
      have hz2 : j + a.length ≤ (S (List.replicate j 48 ++ a)).size := by omega
      have hb1 : (S b).size ≤ b.length := by rw [S_size]; exact Nat.le_refl _
      have hb2 : b.length ≤ (S b).size := by rw [S_size]; exact Nat.le_refl _
      have HZ := Lib.hid (zero_app a j)
      clear hz
      by_cases hlt : j + a.length < b.length
      · go_wp2_with fail
        go_round
        case rel => exact ⟨j + 1, by omega, by rw [HZ.out]⟩
        case measure =>
          show b.length - (_ ++ _ : ByteArray).size < b.length - (S _).size
          rw [HZ.out, S_size, S_size]; simp; omega
      · have HJ : Hid (List.replicate j 48 ++ a = pad b.length a) := by
          show _ = _
          unfold pad
          rw [show j = b.length - a.length by omega]
        go_wp2_with fail
        go_loop [1] (fun v => PadRel b a.length v) (fun v => a.length - (match v with | .string s => s.size | _ => 0))
        case atStart => exact ⟨0, Nat.zero_le _, rfl⟩
        case round =>
          obtain ⟨i, hi, rfl⟩ := hrel
          have hy : (S (List.replicate i 48 ++ b)).size = i + b.length := by rw [S_size]; simp
          have hy1 : (S (List.replicate i 48 ++ b)).size ≤ i + b.length := by omega
          have hy2 : i + b.length ≤ (S (List.replicate i 48 ++ b)).size := by omega
          have HY := Lib.hid (zero_app b i)
          clear hy
          by_cases hl2 : i + b.length < j + a.length
          · go_wp2_with fail
            go_round
            case rel => exact ⟨i + 1, by omega, by rw [HY.out]⟩
            case measure =>
              show a.length - (_ ++ _ : ByteArray).size < a.length - (S _).size
              rw [HY.out, S_size, S_size]; simp; omega
          · have HI : Hid (List.replicate i 48 ++ b = pad a.length b) := by
              show _ = _
              unfold pad
              rw [show i = a.length - b.length by omega]
            go_wp2_with (go_at_call 48; go_must (refine (texts_as _ _ _).mono ?_); rintro e w1 ⟨rfl, rfl⟩)
            go_ret
            exact ⟨by rw [HE.out, ← HJ.out, ← HI.out]; rfl, rfl⟩
end Go.Proofs.YtkjifpfaekljaaaDoor
