/- The reference's numbers as bytes: Number: a walk. -/
import Derived.Test.YtlhpgkaffbgkgaaGreatDoorOctMath2
import Derived.Test.YtlhpgkaffbgkgaaGreatDoorOct2
import Derived.Test.YtlhpgkaffbgkgaaGreatDoorSemCom
namespace Go
open Go.Oct
theorem bw_div {N j : Nat} (h : N < 18446744073709551616) (hj : j ≤ bw N) : 0 < N / 256 ^ j ↔ j < bw N := by
  constructor
  · intro h0
    rcases Nat.lt_or_ge j (bw N) with h1 | h1
    · exact h1
    · have : j = bw N := by omega
      subst this
      rw [Nat.div_eq_of_lt (bw_lt h)] at h0; omega
  · intro h1
    have hN : N ≠ 0 := by
      rintro rfl
      have : bw 0 = 0 := rfl
      omega
    have h2 := (bw_ge h hN).2
    have h3 := Nat.pow_le_pow_right (show 0 < 256 by decide) (show j ≤ bw N - 1 by omega)
    exact Nat.div_pos (by omega) (Nat.pow_pos (by decide))
theorem beL_step (N j : Nat) : S (beL (j + 1) N) = strOfNums [((N / 256 ^ j : Nat) : Int) % 256] ++ S (beL j N) := by
  rw [beL_cons, strOfNums_S, S_append]
  congr 1
end Go
namespace Go.Proofs.YtlhpgkaffbgkgaaGreatDoor
open Go.RowKit Go.Oct
def RNRel (N : Nat) (w : World) (n out k : Value) (wr : World) : Prop :=
  ∃ (j m : Nat) (o : ByteArray), j ≤ bw N ∧ N / 256 ^ j = m ∧ n = .int .u64 (m : Int) ∧ out = .string o ∧ o = S (beL j N) ∧ k = .int .i64 (j : Int) ∧ Below w.heap.size w wr
theorem conv_one (v : Int) (W : World) : (convert 72 9 (.slice (some ⟨W.heap.size, 0, none⟩) 1 1)).run Tryz.prog (W.alloc (.cells #[.int .u8 v] 5)) = .ok (.string (strOfNums [v])) (W.alloc (.cells #[.int .u8 v] 5)) :=
  conv_lit (P := Tryz.prog) Tryz.underlying72 Tryz.underlying5 Tryz.underlying9 [v] W 5 (0, 0) 1
set_option maxRecDepth 100000 in
set_option maxHeartbeats 2000000 in
theorem rnumber_as (N : Nat) (h : N < 18446744073709551616) (w : World) : Calls Tryz.prog 51 #[.int .u64 (N : Int)] w (NumPost N w) := by
  have hcv := conv_one
  by_cases h1 : N ≤ 247
  · have q : decide ((N : Int) ≤ 247) = true := by simp; omega
    have HN := Lib.hid (show S (numL N) = strOfNums [(N : Int)] by unfold numL; rw [if_pos h1, strOfNums_S]; rfl)
    go_enter Tryz.func51, Tryz.ntmps51
    go_wp2_with fail
    go_ret
    exact ⟨by rw [HN.out]; rfl, (Below.refl _ _).alloc (Nat.le_refl _) _⟩
  · have q : decide ((N : Int) ≤ 247) = false := by simp; omega
    have hl := bw_le N
    have HU := Lib.hid h
    go_enter Tryz.func51, Tryz.ntmps51
    go_wp2_with fail
    go_loopw [0, 3, 4] (fun n out k wr => RNRel N w n out k wr) (fun n _ _ _ => (intOf n).toNat)
    case atStart => exact ⟨0, N, ⟨#[]⟩, Nat.zero_le _, by simp, rfl, rfl, rfl, rfl, Below.refl _ _⟩
    case round =>
      obtain ⟨j, m, o, hj, hm, rfl, rfl, ho, rfl, hbw⟩ := hrel
      have HM := Lib.hid hm
      have HO := Lib.hid ho
      have hml : m ≤ N := by rw [← hm]; exact Nat.div_le_self _ _
      have hos : o.size ≤ 8 := by rw [ho, S_size, beL_length]; omega
      have hzw := hbw.size
      clear hm ho
      have r1 : ∀ (v : Int) W, (Op.stringOp .add (strOfNums [v]) o).run Tryz.prog W = .ok (.string (strOfNums [v] ++ o)) W := fun v W => run_string_add_sum W _ _ (by rw [show (strOfNums [v]).size = 1 from rfl]; omega)
      by_cases hm0 : 0 < m
      · have hlt : j < bw N := (bw_div HU.out hj).1 (by rw [HM.out]; exact hm0)
        have HS := Lib.hid (beL_step N j)
        go_wp2_with fail
        go_roundw
        case rel => exact ⟨j + 1, m / 256, _, hlt, by rw [Nat.pow_succ, ← Nat.div_div_eq_div_mul, HM.out], by go_num, rfl, by rw [HS.out, HM.out, HO.out], by go_num, hbw.alloc hzw _⟩
        case measure => simp [intOf]; omega
      · have hje : Hid (j = bw N) := by
          show j = _
          have := mt (bw_div HU.out hj).2 (by rw [HM.out]; exact hm0)
          omega
        have HF : Hid (S (numL N) = strOfNums [247 + (j : Int)] ++ o) := by
          show _ = _
          rw [HO.out, strOfNums_S, S_append, hje.out]
          unfold numL
          rw [if_neg h1]; rfl
        go_wp2_with fail
        go_ret
        exact ⟨by rw [HF.out]; rfl, hbw.alloc hzw _⟩
def RTextPost (s : ByteArray) (w : World) (e : Ending) (w' : World) : Prop := e = .returned (.string (S (textL s.data.toList))) ∧ Below w.heap.size w w'
set_option maxRecDepth 100000 in
theorem rtext_as (s : ByteArray) (hs : s.size ≤ 100000) (w : World) : Calls Tryz.prog 52 #[.string s] w (RTextPost s w) := by
  have hz := numL_len9 s.size
  have hsl : (S (numL s.size)).size = (numL s.size).length := by show (numL s.size).toArray.size = _; simp
  have HT := Lib.hid (show S (numL s.size) ++ s = S (textL s.data.toList) by unfold textL S; rw [← Lib.size_eq]; apply ByteArray.ext; simp)
  go_enter Tryz.func52, Tryz.ntmps52
  go_wp2_with fail
  refine (rnumber_as s.size (by omega) _).mono ?_
  rintro e w1 ⟨rfl, hb1⟩
  go_wp2_with fail
  go_ret
  exact ⟨by rw [HT.out]; rfl, hb1⟩
end Go.Proofs.YtlhpgkaffbgkgaaGreatDoor
