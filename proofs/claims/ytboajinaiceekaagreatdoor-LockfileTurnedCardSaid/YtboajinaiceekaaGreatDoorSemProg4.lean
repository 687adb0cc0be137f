/- The program's versions: Show: a walk. -/
import Derived.Test.YtboajinaiceekaaGreatDoorSemProg3
import Derived.Deep.RegionHeld3
import Derived.Deep.DeepCutAuto
namespace Go.Proofs.YtboajinaiceekaaGreatDoor
open Go.RowKit
theorem itoa_keep (n : Nat) (w0 w : World) (hE : Env w0) (hn : n ≤ 999999) (A : ByteArray) (hA : S (dig10 n) = A) (B : Nat) (x y z : Value)
    (h : w.cell? ⟨B, 0, none⟩ = some x ∧ w.cell? ⟨B, 1, none⟩ = some y ∧ w.cell? ⟨B, 2, none⟩ = some z ∧ Below w0.heap.size w0 w) :
    Calls Tryz.prog 112 #[.int .i64 (n : Int)] w fun e w' => e = .returned (.string A) ∧
      (w'.cell? ⟨B, 0, none⟩ = some x ∧ w'.cell? ⟨B, 1, none⟩ = some y ∧ w'.cell? ⟨B, 2, none⟩ = some z ∧ Below w0.heap.size w0 w') := by
  subst hA
  obtain ⟨h0, h1, h2, h3⟩ := h
  refine (itoa_any n w (hE.below h3) hn).mono fun _ _ ⟨he, hb⟩ => ⟨he, ?_, ?_, ?_, below_then h3 hb⟩
  · exact (hb.cell (p := ⟨B, 0, none⟩) (cell_lt h0)).trans h0
  · exact (hb.cell (p := ⟨B, 1, none⟩) (cell_lt h1)).trans h1
  · exact (hb.cell (p := ⟨B, 2, none⟩) (cell_lt h2)).trans h2
set_option maxRecDepth 100000 in
set_option maxHeartbeats 1000000 in
theorem show_no (a b c : Int) (p : ByteArray) (w : World) (hE : Env w) (hs : p.size ≤ 9223372036854775807) (h : verErr a b c p.data.toList = 40) :
    Calls Tryz.prog 71 #[.agg #[.int .i64 a, .int .i64 b, .int .i64 c, .string p]] w fun e w' => e = .returned (.tuple #[.string ⟨#[]⟩, .int .i64 40]) ∧ Below w.heap.size w w' := by
  have H := Lib.hid h
  have HE := Lib.hid (hE.alloc (.cells #[.int .i64 a, .int .i64 b, .int .i64 c, .string p] 45))
  clear h hE
  go_enter Tryz.func71, Tryz.ntmps71
  go_wp2_with fail
  refine (checkP_as _ _ _ _ 40 H.out _ HE.out hs).mono ?_
  rintro e w1 ⟨rfl, hb1⟩
  have hbw := below_first (box_of hb1)
  go_wp2_with fail
  go_ret2
  exact ⟨rfl, hbw⟩
set_option maxRecDepth 100000 in
set_option maxHeartbeats 2000000 in
theorem show_yes (a b c : Nat) (p : ByteArray) (w : World) (hE : Env w) (hs : p.size ≤ 24) (ha : a ≤ 999999) (hb : b ≤ 999999) (hc : c ≤ 999999) (h : verErr a b c p.data.toList = 0) :
    Calls Tryz.prog 71 #[.agg #[.int .i64 (a : Int), .int .i64 (b : Int), .int .i64 (c : Int), .string p]] w fun e w' => e = .returned (.tuple #[.string (S (showL a b c p.data.toList)), .int .i64 0]) ∧ Below w.heap.size w w' := by
  have H := Lib.hid h
  have HE0 := Lib.hid hE
  have HE := Lib.hid (hE.alloc (.cells #[.int .i64 (a : Int), .int .i64 (b : Int), .int .i64 (c : Int), .string p] 45))
  clear h hE
  have sa := dig10_size a ha
  have sb := dig10_size b hb
  have sc := dig10_size c hc
  obtain ⟨A, hA⟩ : ∃ A, S (dig10 a) = A := ⟨_, rfl⟩
  obtain ⟨B, hB⟩ : ∃ B, S (dig10 b) = B := ⟨_, rfl⟩
  obtain ⟨C, hC⟩ : ∃ C, S (dig10 c) = C := ⟨_, rfl⟩
  have zA : A.size ≤ 7 := by rw [← hA, S_size]; exact sa
  have zB : B.size ≤ 7 := by rw [← hB, S_size]; exact sb
  have zC : C.size ≤ 7 := by rw [← hC, S_size]; exact sc
  have HA := Lib.hid hA
  have HB := Lib.hid hB
  have HC := Lib.hid hC
  clear hA hB hC sa sb sc
  have r1 : ∀ W, (Op.stringOp .add A ⟨#[46]⟩).run Tryz.prog W = .ok (.string (A ++ ⟨#[46]⟩)) W := fun W => run_string_add_sum W _ _ (by rw [show (⟨#[46]⟩ : ByteArray).size = 1 from rfl]; omega)
  have r2 : ∀ W, (Op.stringOp .add (A ++ ⟨#[46]⟩) B).run Tryz.prog W = .ok (.string (A ++ ⟨#[46]⟩ ++ B)) W := fun W => run_string_add_sum W _ _ (by rw [ByteArray.size_append, show (⟨#[46]⟩ : ByteArray).size = 1 from rfl]; omega)
  have r3 : ∀ W, (Op.stringOp .add (A ++ ⟨#[46]⟩ ++ B) ⟨#[46]⟩).run Tryz.prog W = .ok (.string (A ++ ⟨#[46]⟩ ++ B ++ ⟨#[46]⟩)) W := fun W => run_string_add_sum W _ _ (by rw [ByteArray.size_append, ByteArray.size_append, show (⟨#[46]⟩ : ByteArray).size = 1 from rfl]; omega)
  have r4 : ∀ W, (Op.stringOp .add (A ++ ⟨#[46]⟩ ++ B ++ ⟨#[46]⟩) C).run Tryz.prog W = .ok (.string (A ++ ⟨#[46]⟩ ++ B ++ ⟨#[46]⟩ ++ C)) W := fun W => run_string_add_sum W _ _ (by rw [ByteArray.size_append, ByteArray.size_append, ByteArray.size_append, show (⟨#[46]⟩ : ByteArray).size = 1 from rfl]; omega)
  go_enter Tryz.func71, Tryz.ntmps71
  go_wp2_with fail
  refine (checkP_as _ _ _ _ 0 H.out _ HE.out (by omega)).mono ?_
  rintro e w1 ⟨rfl, hb1⟩
  have hb2 := box_of hb1
  have hbw := below_first hb2
  have c0 := box_cells hb2 0
  have c1 := box_cells hb2 1
  have c2 := box_cells hb2 2
  have c3 := box_cells hb2 3
  simp at c0 c1 c2 c3
  clear hb1 hb2
  have hb0 : Below w1.heap.size w1 w1 := Below.refl _ _
  have hB0 := cell_lt c0
  have hE1 := Lib.hid (HE0.out.below hbw)
  go_wp2_with fail
  go_upto_region 4 with fail
  go_cut [5] (fun s wx => s = .string (A ++ ⟨#[46]⟩ ++ B ++ ⟨#[46]⟩ ++ C) ∧ Below w1.heap.size w1 wx)
  case first =>
    have hd0 : Below w1.heap.size w1 w1.drew := (Below.refl _ _).drew
    go_region_held3 (fun w' => w'.cell? ⟨w.heap.size, 0, none⟩ = some (.int .i64 (a : Int)) ∧ w'.cell? ⟨w.heap.size, 1, none⟩ = some (.int .i64 (b : Int)) ∧ w'.cell? ⟨w.heap.size, 2, none⟩ = some (.int .i64 (c : Int)) ∧ Below w1.heap.size w1 w') (go_keep)
      (first
        | (go_at_call_of 112 (Value.int .i64 (a : Int)); refine (itoa_keep a w1 _ hE1.out ha A HA.out w.heap.size _ _ _ (by assumption)).mono ?_; rintro e w2 ⟨rfl, hk1⟩)
        | (go_at_call_of 112 (Value.int .i64 (b : Int)); refine (itoa_keep b w1 _ hE1.out hb B HB.out w.heap.size _ _ _ (by assumption)).mono ?_; rintro e w2 ⟨rfl, hk2⟩)
        | (go_at_call_of 112 (Value.int .i64 (c : Int)); refine (itoa_keep c w1 _ hE1.out hc C HC.out w.heap.size _ _ _ (by assumption)).mono ?_; rintro e w2 ⟨rfl, hk3⟩))
    all_goals (go_wp2_with fail; go_meet; first | exact ⟨rfl, hk3.2.2.2⟩ | exact ⟨rfl, hk2.2.2.2⟩ | exact ⟨rfl, hk1.2.2.2⟩)
  case rest =>
    obtain ⟨rfl, hb5⟩ := hcut
    have c3' := (hb5.cell (p := ⟨w.heap.size, 3, none⟩) hB0).trans c3
    have hbw5 := below_then hbw hb5
    obtain ⟨T, hT⟩ : ∃ T, A ++ ⟨#[46]⟩ ++ B ++ ⟨#[46]⟩ ++ C = T := ⟨_, rfl⟩
    have hTs : T.size ≤ 30 := by
      rw [← hT, ByteArray.size_append, ByteArray.size_append, ByteArray.size_append, ByteArray.size_append, show (⟨#[46]⟩ : ByteArray).size = 1 from rfl]; omega
    have HT : Hid (T = S (showCore a b c)) := by
      show _ = _
      rw [← hT, ← HA.out, ← HB.out, ← HC.out]
      unfold showCore
      rw [← S_append, ← S_append, ← S_append, ← S_append]; rfl
    rw [hT]
    clear hT r1 r2 r3 r4 c0 c1 c2 c3 hbw hb5
    cases hem : p.toList.isEmpty
    · have HF : Hid (T ++ (⟨#[45]⟩ ++ p) = S (showL a b c p.data.toList)) := by
        show _ = _
        rw [Lib.toList_data] at hem
        unfold showL
        rw [HT.out, hem]
        simp only [Bool.false_eq_true, if_false]
        rw [← S_append, ← S_append, ByteArray.append_assoc]; rfl
      go_wp2_with fail
      go_ret2
      exact ⟨by rw [← HF.out]; rfl, hbw5⟩
    · have HF : Hid (T = S (showL a b c p.data.toList)) := by
        show _ = _
        rw [Lib.toList_data] at hem
        unfold showL
        rw [HT.out, hem]; rfl
      go_wp2_with fail
      go_ret2
      exact ⟨by rw [← HF.out]; rfl, hbw5⟩
end Go.Proofs.YtboajinaiceekaaGreatDoor
