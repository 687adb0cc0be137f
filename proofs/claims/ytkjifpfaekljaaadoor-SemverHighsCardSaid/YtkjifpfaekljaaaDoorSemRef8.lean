/- The reference of layer 4: Show: a walk. -/
import Derived.Test.YtkjifpfaekljaaaDoorSemRef7
import Derived.Deep.QuietTactic
import Derived.BigQuiet
import Derived.Deep.RegionWith
namespace Go.Proofs.YtkjifpfaekljaaaDoor
open Go.RowKit
theorem num_quiet (N : Nat) (w : World) (hN : N ≤ 999999) :
    Calls Tryd.prog 28 #[.int .i64 (N : Int)] w fun e w' => e = .returned (.string (S (dig10 N))) ∧ w' = w :=
  (refNum_any N w hN).mono fun _ _ ⟨h1, h2⟩ => ⟨h1, h2.symm⟩
theorem check_as (a b c r : Int) (p : ByteArray) (h : verErr a b c p.data.toList = r) (w : World) (hs : p.size ≤ 9223372036854775807) :
    Calls Tryd.prog 17 #[.agg #[.int .i64 a, .int .i64 b, .int .i64 c, .string p]] w fun e w' => e = .returned (.int .i64 r) ∧ Below w.heap.size w w' := by
  subst h; exact refCheck_any a b c p w hs
set_option maxRecDepth 100000 in
set_option maxHeartbeats 1000000 in
theorem refShow_no (a b c : Int) (p : ByteArray) (w : World) (hs : p.size ≤ 9223372036854775807) (h : verErr a b c p.data.toList = 40) :
    Calls Tryd.prog 15 #[.agg #[.int .i64 a, .int .i64 b, .int .i64 c, .string p]] w fun e w' => e = .returned (.tuple #[.string ⟨#[]⟩, .int .i64 40]) ∧ Below w.heap.size w w' := by
  have H := Lib.hid h
  clear h
  go_enter Tryd.func15, Tryd.ntmps15
  go_wp2_with fail
  refine (check_as _ _ _ 40 _ H.out _ hs).mono ?_
  rintro e w1 ⟨rfl, hb1⟩
  have hbw := ((Below.refl w.heap.size w).alloc (Nat.le_refl _) (.cells #[.int .i64 a, .int .i64 b, .int .i64 c, .string p] 23)).trans (hb1.mono (by simp))
  go_wp2_with fail
  go_ret2
  exact ⟨rfl, hbw⟩
theorem dig10_size (n : Nat) (h : n ≤ 999999) : (dig10 n).length ≤ 7 := by
  have h1 : ∀ n, n < 10 → (dig10 n).length ≤ 1 := fun n h => by rw [dig10_lt n h]; simp
  have step : ∀ k n, (∀ m, m < 10 ^ k → (dig10 m).length ≤ k + 1) → n < 10 ^ (k + 1) → (dig10 n).length ≤ k + 2 := by
    intro k n ih hn
    by_cases h : n < 10
    · have := h1 n h; omega
    · rw [dig10_ge n (by omega), List.length_append]
      have := ih (n / 10) (by rw [Nat.pow_succ] at hn; omega)
      simp; omega
  have t0 : ∀ m, m < 10 ^ 0 → (dig10 m).length ≤ 0 + 1 := by
    intro m hm
    have : m = 0 := by simpa using hm
    subst this
    exact h1 0 (by decide)
  have t1 := fun n h => step 0 n t0 h
  have t2 := fun n h => step 1 n t1 h
  have t3 := fun n h => step 2 n t2 h
  have t4 := fun n h => step 3 n t3 h
  have t5 := fun n h => step 4 n t4 h
  have t6 := fun n h => step 5 n t5 h
  exact t6 n (by simp; omega)
set_option maxRecDepth 100000 in
set_option maxHeartbeats 1000000 in
theorem refShow_yes (a b c : Nat) (p : ByteArray) (w : World) (hs : p.size ≤ 24) (ha : a ≤ 999999) (hb : b ≤ 999999) (hc : c ≤ 999999) (h : verErr a b c p.data.toList = 0) :
    Calls Tryd.prog 15 #[.agg #[.int .i64 (a : Int), .int .i64 (b : Int), .int .i64 (c : Int), .string p]] w fun e w' => e = .returned (.tuple #[.string (S (showL a b c p.data.toList)), .int .i64 0]) ∧ Below w.heap.size w w' := by
  have H := Lib.hid h
  clear h
  have sa := dig10_size a ha
  have sb := dig10_size b hb
  have sc := dig10_size c hc
  obtain ⟨A, hA⟩ : ∃ A, A = S (dig10 a) := ⟨_, rfl⟩
  obtain ⟨B, hB⟩ : ∃ B, B = S (dig10 b) := ⟨_, rfl⟩
  obtain ⟨C, hC⟩ : ∃ C, C = S (dig10 c) := ⟨_, rfl⟩
  have zA : A.size ≤ 7 := by rw [hA, S_size]; exact sa
  have zB : B.size ≤ 7 := by rw [hB, S_size]; exact sb
  have zC : C.size ≤ 7 := by rw [hC, S_size]; exact sc
  have QA := fun w => num_quiet a w ha
  have QB := fun w => num_quiet b w hb
  have QC := fun w => num_quiet c w hc
  rw [← hA] at QA
  rw [← hB] at QB
  rw [← hC] at QC
  have HA := Lib.hid QA
  have HB := Lib.hid QB
  have HC := Lib.hid QC
  have EA := Lib.hid hA
  have EB := Lib.hid hB
  have EC := Lib.hid hC
  clear QA QB QC hA hB hC
  go_enter Tryd.func15, Tryd.ntmps15
  go_wp2_with fail
  refine (check_as _ _ _ 0 _ H.out _ (by omega)).mono ?_
  rintro e w1 ⟨rfl, hb1⟩
  have hbw := ((Below.refl w.heap.size w).alloc (Nat.le_refl _) (.cells #[.int .i64 (a : Int), .int .i64 (b : Int), .int .i64 (c : Int), .string p] 23)).trans (hb1.mono (by simp))
  have hb2 : Below (w.heap.size + 1) (w.alloc (.cells #[.int .i64 (a : Int), .int .i64 (b : Int), .int .i64 (c : Int), .string p] 23)) w1 := hb1.mono (by simp)
  have c0 := box_cells hb2 0
  have c1 := box_cells hb2 1
  have c2 := box_cells hb2 2
  have c3 := box_cells hb2 3
  simp at c0 c1 c2 c3
  clear hb1 hb2
  go_wp2_with fail
  go_quiet ((first | (go_at_call_of 28 (Value.int .i64 (a : Int)); exact Calls.quiet_of_same (HA.out _)) | (go_at_call_of 28 (Value.int .i64 (b : Int)); exact Calls.quiet_of_same (HB.out _)) | (go_at_call_of 28 (Value.int .i64 (c : Int)); exact Calls.quiet_of_same (HC.out _))))
  go_wp2_with fail
  · have hp : (!p.toList.isEmpty) = true := by assumption
    go_ret2
    refine ⟨?_, below_drewN hbw _⟩
    have e : A ++ ⟨#[46]⟩ ++ B ++ ⟨#[46]⟩ ++ C ++ ⟨#[45]⟩ ++ p = S (showL a b c p.data.toList) := by
      rw [Lib.toList_data] at hp
      unfold showL showCore
      rw [if_neg (by simpa using hp), EA.out, EB.out, EC.out, ← S_append, ← S_append, ← S_append, ← S_append, ← S_append, ← S_append]
      rfl
    rw [← e]; rfl
  · have hp : (!p.toList.isEmpty) = false := by assumption
    go_ret2
    refine ⟨?_, below_drewN hbw _⟩
    have e : A ++ ⟨#[46]⟩ ++ B ++ ⟨#[46]⟩ ++ C = S (showL a b c p.data.toList) := by
      rw [Lib.toList_data] at hp
      unfold showL showCore
      rw [if_pos (by simpa using hp), EA.out, EB.out, EC.out, ← S_append, ← S_append, ← S_append, ← S_append]
      rfl
    rw [← e]; rfl
end Go.Proofs.YtkjifpfaekljaaaDoor
