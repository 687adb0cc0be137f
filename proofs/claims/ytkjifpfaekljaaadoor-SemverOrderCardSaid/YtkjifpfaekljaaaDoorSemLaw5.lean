/- The law SemverOrder: a walk. -/
import Derived.Test.YtkjifpfaekljaaaDoorSemLaw3
import Derived.Test.YtkjifpfaekljaaaDoorSemProg7
namespace Go.Proofs.YtkjifpfaekljaaaDoor
open Go.RowKit
theorem keepB3 {P : Program} {f : FuncId} {args : Array Value} {v : Value} (w0 w : World) (B : Nat) (x00 x01 x02 x03 x10 x11 x12 x13 x20 x21 x22 x23 : Value)
    (h : w.cell? ⟨B, 0, none⟩ = some x00 ∧ w.cell? ⟨B, 1, none⟩ = some x01 ∧ w.cell? ⟨B, 2, none⟩ = some x02 ∧ w.cell? ⟨B, 3, none⟩ = some x03 ∧ w.cell? ⟨B + 1, 0, none⟩ = some x10 ∧ w.cell? ⟨B + 1, 1, none⟩ = some x11 ∧ w.cell? ⟨B + 1, 2, none⟩ = some x12 ∧ w.cell? ⟨B + 1, 3, none⟩ = some x13 ∧ w.cell? ⟨B + 2, 0, none⟩ = some x20 ∧ w.cell? ⟨B + 2, 1, none⟩ = some x21 ∧ w.cell? ⟨B + 2, 2, none⟩ = some x22 ∧ w.cell? ⟨B + 2, 3, none⟩ = some x23 ∧ Below w0.heap.size w0 w)
    (hc : Calls P f args w fun e w' => e = .returned v ∧ Below w.heap.size w w') :
    Calls P f args w fun e w' => e = .returned v ∧ (w'.cell? ⟨B, 0, none⟩ = some x00 ∧ w'.cell? ⟨B, 1, none⟩ = some x01 ∧ w'.cell? ⟨B, 2, none⟩ = some x02 ∧ w'.cell? ⟨B, 3, none⟩ = some x03 ∧ w'.cell? ⟨B + 1, 0, none⟩ = some x10 ∧ w'.cell? ⟨B + 1, 1, none⟩ = some x11 ∧ w'.cell? ⟨B + 1, 2, none⟩ = some x12 ∧ w'.cell? ⟨B + 1, 3, none⟩ = some x13 ∧ w'.cell? ⟨B + 2, 0, none⟩ = some x20 ∧ w'.cell? ⟨B + 2, 1, none⟩ = some x21 ∧ w'.cell? ⟨B + 2, 2, none⟩ = some x22 ∧ w'.cell? ⟨B + 2, 3, none⟩ = some x23 ∧ Below w0.heap.size w0 w') := by
  obtain ⟨h00, h01, h02, h03, h10, h11, h12, h13, h20, h21, h22, h23, hz⟩ := h
  exact hc.mono fun _ _ ⟨he, hb⟩ => ⟨he, (hb.cell (p := ⟨B, 0, none⟩) (cell_lt h00)).trans h00, (hb.cell (p := ⟨B, 1, none⟩) (cell_lt h01)).trans h01, (hb.cell (p := ⟨B, 2, none⟩) (cell_lt h02)).trans h02, (hb.cell (p := ⟨B, 3, none⟩) (cell_lt h03)).trans h03, (hb.cell (p := ⟨B + 1, 0, none⟩) (cell_lt h10)).trans h10, (hb.cell (p := ⟨B + 1, 1, none⟩) (cell_lt h11)).trans h11, (hb.cell (p := ⟨B + 1, 2, none⟩) (cell_lt h12)).trans h12, (hb.cell (p := ⟨B + 1, 3, none⟩) (cell_lt h13)).trans h13, (hb.cell (p := ⟨B + 2, 0, none⟩) (cell_lt h20)).trans h20, (hb.cell (p := ⟨B + 2, 1, none⟩) (cell_lt h21)).trans h21, (hb.cell (p := ⟨B + 2, 2, none⟩) (cell_lt h22)).trans h22, (hb.cell (p := ⟨B + 2, 3, none⟩) (cell_lt h23)).trans h23, below_then hz hb⟩
theorem keepA3 (w0 w w' : World) (B : Nat) (x00 x01 x02 x03 x10 x11 x12 x13 x20 x21 x22 x23 : Value) (h : w.cell? ⟨B, 0, none⟩ = some x00 ∧ w.cell? ⟨B, 1, none⟩ = some x01 ∧ w.cell? ⟨B, 2, none⟩ = some x02 ∧ w.cell? ⟨B, 3, none⟩ = some x03 ∧ w.cell? ⟨B + 1, 0, none⟩ = some x10 ∧ w.cell? ⟨B + 1, 1, none⟩ = some x11 ∧ w.cell? ⟨B + 1, 2, none⟩ = some x12 ∧ w.cell? ⟨B + 1, 3, none⟩ = some x13 ∧ w.cell? ⟨B + 2, 0, none⟩ = some x20 ∧ w.cell? ⟨B + 2, 1, none⟩ = some x21 ∧ w.cell? ⟨B + 2, 2, none⟩ = some x22 ∧ w.cell? ⟨B + 2, 3, none⟩ = some x23 ∧ Below w0.heap.size w0 w) (hb : Below w.heap.size w w') : w'.cell? ⟨B, 0, none⟩ = some x00 ∧ w'.cell? ⟨B, 1, none⟩ = some x01 ∧ w'.cell? ⟨B, 2, none⟩ = some x02 ∧ w'.cell? ⟨B, 3, none⟩ = some x03 ∧ w'.cell? ⟨B + 1, 0, none⟩ = some x10 ∧ w'.cell? ⟨B + 1, 1, none⟩ = some x11 ∧ w'.cell? ⟨B + 1, 2, none⟩ = some x12 ∧ w'.cell? ⟨B + 1, 3, none⟩ = some x13 ∧ w'.cell? ⟨B + 2, 0, none⟩ = some x20 ∧ w'.cell? ⟨B + 2, 1, none⟩ = some x21 ∧ w'.cell? ⟨B + 2, 2, none⟩ = some x22 ∧ w'.cell? ⟨B + 2, 3, none⟩ = some x23 ∧ Below w0.heap.size w0 w' := by
  obtain ⟨h00, h01, h02, h03, h10, h11, h12, h13, h20, h21, h22, h23, hz⟩ := h
  exact ⟨(hb.cell (p := ⟨B, 0, none⟩) (cell_lt h00)).trans h00, (hb.cell (p := ⟨B, 1, none⟩) (cell_lt h01)).trans h01, (hb.cell (p := ⟨B, 2, none⟩) (cell_lt h02)).trans h02, (hb.cell (p := ⟨B, 3, none⟩) (cell_lt h03)).trans h03, (hb.cell (p := ⟨B + 1, 0, none⟩) (cell_lt h10)).trans h10, (hb.cell (p := ⟨B + 1, 1, none⟩) (cell_lt h11)).trans h11, (hb.cell (p := ⟨B + 1, 2, none⟩) (cell_lt h12)).trans h12, (hb.cell (p := ⟨B + 1, 3, none⟩) (cell_lt h13)).trans h13, (hb.cell (p := ⟨B + 2, 0, none⟩) (cell_lt h20)).trans h20, (hb.cell (p := ⟨B + 2, 1, none⟩) (cell_lt h21)).trans h21, (hb.cell (p := ⟨B + 2, 2, none⟩) (cell_lt h22)).trans h22, (hb.cell (p := ⟨B + 2, 3, none⟩) (cell_lt h23)).trans h23, below_then hz hb⟩
theorem or2_small {x y : Int} (hx : -1 ≤ x ∧ x ≤ 1) (hy : -1 ≤ y ∧ y ≤ 1) : -1 ≤ or2 x y ∧ or2 x y ≤ 1 := by
  unfold or2; split <;> assumption
theorem ord_small (x y : Int) : -1 ≤ ord x y ∧ ord x y ≤ 1 := by
  unfold ord
  split
  · omega
  · split <;> omega
theorem txt_small (x y : List UInt8) : -1 ≤ txt x y ∧ txt x y ≤ 1 := by
  unfold txt
  split
  · omega
  · split <;> omega
theorem parts_small (x y : List UInt8) : -1 ≤ partsCmp x y ∧ partsCmp x y ≤ 1 := by
  unfold partsCmp
  have h1 := txt_small (pad y.length x) (pad x.length y)
  have h2 := txt_small x y
  split <;> split <;> first | assumption | omega
theorem lcmp_small : ∀ xs ys : List (List UInt8), -1 ≤ lcmp xs ys ∧ lcmp xs ys ≤ 1
  | [], [] => by decide
  | [], _ :: _ => by simp [lcmp]
  | _ :: _, [] => by simp [lcmp]
  | x :: xs, y :: ys => by rw [lcmp]; exact or2_small (parts_small x y) (lcmp_small xs ys)
theorem cmpV_small (a b c : Int) (p : List UInt8) (a' b' c' : Int) (p' : List UInt8) : -1 ≤ cmpV a b c p a' b' c' p' ∧ cmpV a b c p a' b' c' p' ≤ 1 := by
  unfold cmpV cmp3
  refine or2_small (or2_small (ord_small _ _) (or2_small (ord_small _ _) (ord_small _ _))) ?_
  unfold cmpPre
  have := lcmp_small (Sem4.dots p) (Sem4.dots p')
  split <;> split <;> first | assumption | omega
theorem cmpP_val (x y : V4) (r : Int) (h : V4.cmp x y = r) (hp : x.p.size ≤ 300) (hp' : y.p.size ≤ 300) (w : World) (hE : Env w) :
    Calls Tryd.prog 19 #[.agg #[.int .i64 x.a, .int .i64 x.b, .int .i64 x.c, .string x.p], .agg #[.int .i64 y.a, .int .i64 y.b, .int .i64 y.c, .string y.p]] w fun e w' => e = .returned (.int .i64 r) ∧ Below w.heap.size w w' := cmpP_as x y r h w hE hp hp'
set_option maxRecDepth 100000 in
set_option maxHeartbeats 4000000 in
theorem semverOrder_walk (a b c : Int) (p : ByteArray) (a' b' c' : Int) (p' : ByteArray) (a'' b'' c'' : Int) (p'' : ByteArray) (w : World) (hE : Env w)
    (hp : p.size ≤ 9223372036854775807) (hp' : p'.size ≤ 9223372036854775807) (hp'' : p''.size ≤ 9223372036854775807) :
    Calls Tryd.prog 7 #[.agg #[.int .i64 a, .int .i64 b, .int .i64 c, .string p], .agg #[.int .i64 a', .int .i64 b', .int .i64 c', .string p'], .agg #[.int .i64 a'', .int .i64 b'', .int .i64 c'', .string p'']] w fun e w' => e = .returned (.bool true) ∧ Below w.heap.size w w' := by
  have HE := Lib.hid hE
  clear hE
  have hW : Below w.heap.size w (((w.alloc (.cells #[.int .i64 a, .int .i64 b, .int .i64 c, .string p] 23)).alloc (.cells #[.int .i64 a', .int .i64 b', .int .i64 c', .string p'] 23)).alloc (.cells #[.int .i64 a'', .int .i64 b'', .int .i64 c'', .string p''] 23)) := (((Below.refl w.heap.size w).alloc (Nat.le_refl _) _).alloc (by simp) _).alloc (by simp; omega) _
  obtain ⟨r, hr⟩ : ∃ r, verErr a b c p.data.toList = r := ⟨_, rfl⟩
  obtain ⟨r', hr'⟩ : ∃ r, verErr a' b' c' p'.data.toList = r := ⟨_, rfl⟩
  obtain ⟨r'', hr''⟩ : ∃ r, verErr a'' b'' c'' p''.data.toList = r := ⟨_, rfl⟩
  have hc := verErr_cases a b c p.data.toList
  have hc' := verErr_cases a' b' c' p'.data.toList
  have hc'' := verErr_cases a'' b'' c'' p''.data.toList
  rw [hr] at hc
  rw [hr'] at hc'
  rw [hr''] at hc''
  have HR := Lib.hid hr
  have HR' := Lib.hid hr'
  have HR'' := Lib.hid hr''
  clear hr hr' hr''
  have hS : (((w.alloc (.cells #[.int .i64 a, .int .i64 b, .int .i64 c, .string p] 23)).alloc (.cells #[.int .i64 a', .int .i64 b', .int .i64 c', .string p'] 23)).alloc (.cells #[.int .i64 a'', .int .i64 b'', .int .i64 c'', .string p''] 23)).cell? ⟨w.heap.size, 0, none⟩ = some (.int .i64 a) ∧ (((w.alloc (.cells #[.int .i64 a, .int .i64 b, .int .i64 c, .string p] 23)).alloc (.cells #[.int .i64 a', .int .i64 b', .int .i64 c', .string p'] 23)).alloc (.cells #[.int .i64 a'', .int .i64 b'', .int .i64 c'', .string p''] 23)).cell? ⟨w.heap.size, 1, none⟩ = some (.int .i64 b) ∧ (((w.alloc (.cells #[.int .i64 a, .int .i64 b, .int .i64 c, .string p] 23)).alloc (.cells #[.int .i64 a', .int .i64 b', .int .i64 c', .string p'] 23)).alloc (.cells #[.int .i64 a'', .int .i64 b'', .int .i64 c'', .string p''] 23)).cell? ⟨w.heap.size, 2, none⟩ = some (.int .i64 c) ∧ (((w.alloc (.cells #[.int .i64 a, .int .i64 b, .int .i64 c, .string p] 23)).alloc (.cells #[.int .i64 a', .int .i64 b', .int .i64 c', .string p'] 23)).alloc (.cells #[.int .i64 a'', .int .i64 b'', .int .i64 c'', .string p''] 23)).cell? ⟨w.heap.size, 3, none⟩ = some (.string p) ∧ (((w.alloc (.cells #[.int .i64 a, .int .i64 b, .int .i64 c, .string p] 23)).alloc (.cells #[.int .i64 a', .int .i64 b', .int .i64 c', .string p'] 23)).alloc (.cells #[.int .i64 a'', .int .i64 b'', .int .i64 c'', .string p''] 23)).cell? ⟨w.heap.size + 1, 0, none⟩ = some (.int .i64 a') ∧ (((w.alloc (.cells #[.int .i64 a, .int .i64 b, .int .i64 c, .string p] 23)).alloc (.cells #[.int .i64 a', .int .i64 b', .int .i64 c', .string p'] 23)).alloc (.cells #[.int .i64 a'', .int .i64 b'', .int .i64 c'', .string p''] 23)).cell? ⟨w.heap.size + 1, 1, none⟩ = some (.int .i64 b') ∧ (((w.alloc (.cells #[.int .i64 a, .int .i64 b, .int .i64 c, .string p] 23)).alloc (.cells #[.int .i64 a', .int .i64 b', .int .i64 c', .string p'] 23)).alloc (.cells #[.int .i64 a'', .int .i64 b'', .int .i64 c'', .string p''] 23)).cell? ⟨w.heap.size + 1, 2, none⟩ = some (.int .i64 c') ∧ (((w.alloc (.cells #[.int .i64 a, .int .i64 b, .int .i64 c, .string p] 23)).alloc (.cells #[.int .i64 a', .int .i64 b', .int .i64 c', .string p'] 23)).alloc (.cells #[.int .i64 a'', .int .i64 b'', .int .i64 c'', .string p''] 23)).cell? ⟨w.heap.size + 1, 3, none⟩ = some (.string p') ∧ (((w.alloc (.cells #[.int .i64 a, .int .i64 b, .int .i64 c, .string p] 23)).alloc (.cells #[.int .i64 a', .int .i64 b', .int .i64 c', .string p'] 23)).alloc (.cells #[.int .i64 a'', .int .i64 b'', .int .i64 c'', .string p''] 23)).cell? ⟨w.heap.size + 2, 0, none⟩ = some (.int .i64 a'') ∧ (((w.alloc (.cells #[.int .i64 a, .int .i64 b, .int .i64 c, .string p] 23)).alloc (.cells #[.int .i64 a', .int .i64 b', .int .i64 c', .string p'] 23)).alloc (.cells #[.int .i64 a'', .int .i64 b'', .int .i64 c'', .string p''] 23)).cell? ⟨w.heap.size + 2, 1, none⟩ = some (.int .i64 b'') ∧ (((w.alloc (.cells #[.int .i64 a, .int .i64 b, .int .i64 c, .string p] 23)).alloc (.cells #[.int .i64 a', .int .i64 b', .int .i64 c', .string p'] 23)).alloc (.cells #[.int .i64 a'', .int .i64 b'', .int .i64 c'', .string p''] 23)).cell? ⟨w.heap.size + 2, 2, none⟩ = some (.int .i64 c'') ∧ (((w.alloc (.cells #[.int .i64 a, .int .i64 b, .int .i64 c, .string p] 23)).alloc (.cells #[.int .i64 a', .int .i64 b', .int .i64 c', .string p'] 23)).alloc (.cells #[.int .i64 a'', .int .i64 b'', .int .i64 c'', .string p''] 23)).cell? ⟨w.heap.size + 2, 3, none⟩ = some (.string p'') ∧ Below w.heap.size w (((w.alloc (.cells #[.int .i64 a, .int .i64 b, .int .i64 c, .string p] 23)).alloc (.cells #[.int .i64 a', .int .i64 b', .int .i64 c', .string p'] 23)).alloc (.cells #[.int .i64 a'', .int .i64 b'', .int .i64 c'', .string p''] 23)) := by
    refine ⟨?_, ?_, ?_, ?_, ?_, ?_, ?_, ?_, ?_, ?_, ?_, ?_, hW⟩ <;> go_simp
  have HS0 := Lib.hid hS
  clear hS
  rcases hc with ⟨rfl, hok⟩ | rfl
  case inr =>
    clear hc' hc''
    go_enter Tryd.func7, Tryd.ntmps7
    go_wp2_with fail
    refine (keepB3 w _ w.heap.size _ _ _ _ _ _ _ _ _ _ _ _ HS0.out (checkP_as a b c p 40 HR.out _ (HE.out.below hW) hp)).mono ?_
    rintro e w1 ⟨rfl, hS1⟩
    go_wp2_with fail
    have hb1 := hS1.2.2.2.2.2.2.2.2.2.2.2.2
    refine (awake_any _ (HE.out.below hb1)).mono ?_
    rintro e w2 ⟨rfl, hb2⟩
    go_wp2_with fail
    go_ret
    exact ⟨rfl, below_then hb1 hb2⟩
  rcases hc' with ⟨rfl, hok'⟩ | rfl
  case inr =>
    clear hc''
    go_enter Tryd.func7, Tryd.ntmps7
    go_wp2_with fail
    refine (keepB3 w _ w.heap.size _ _ _ _ _ _ _ _ _ _ _ _ HS0.out (checkP_as a b c p 0 HR.out _ (HE.out.below hW) hp)).mono ?_
    rintro e w1 ⟨rfl, hS1⟩
    have hb1 := hS1.2.2.2.2.2.2.2.2.2.2.2.2
    have HS1 := Lib.hid hS1
    obtain ⟨k00, k01, k02, k03, k10, k11, k12, k13, k20, k21, k22, k23, _⟩ := hS1
    go_wp2_with fail
    refine (keepB3 w _ w.heap.size _ _ _ _ _ _ _ _ _ _ _ _ HS1.out (checkP_as a' b' c' p' 40 HR'.out _ (HE.out.below hb1) hp')).mono ?_
    rintro e w2 ⟨rfl, hS2⟩
    have hb2 := hS2.2.2.2.2.2.2.2.2.2.2.2.2
    clear hS2 k00 k01 k02 k03 k10 k11 k12 k13 k20 k21 k22 k23
    go_wp2_with fail
    refine (awake_any _ (HE.out.below hb2)).mono ?_
    rintro e w3 ⟨rfl, hb3⟩
    go_wp2_with fail
    go_ret
    exact ⟨rfl, below_then hb2 hb3⟩
  rcases hc'' with ⟨rfl, hok''⟩ | rfl
  case inr =>
    go_enter Tryd.func7, Tryd.ntmps7
    go_wp2_with fail
    refine (keepB3 w _ w.heap.size _ _ _ _ _ _ _ _ _ _ _ _ HS0.out (checkP_as a b c p 0 HR.out _ (HE.out.below hW) hp)).mono ?_
    rintro e w1 ⟨rfl, hS1⟩
    have hb1 := hS1.2.2.2.2.2.2.2.2.2.2.2.2
    have HS1 := Lib.hid hS1
    obtain ⟨k00, k01, k02, k03, k10, k11, k12, k13, k20, k21, k22, k23, _⟩ := hS1
    go_wp2_with fail
    refine (keepB3 w _ w.heap.size _ _ _ _ _ _ _ _ _ _ _ _ HS1.out (checkP_as a' b' c' p' 0 HR'.out _ (HE.out.below hb1) hp')).mono ?_
    rintro e w2 ⟨rfl, hS2⟩
    have hb2 := hS2.2.2.2.2.2.2.2.2.2.2.2.2
    have HS2 := Lib.hid hS2
    clear k00 k01 k02 k03 k10 k11 k12 k13 k20 k21 k22 k23
    obtain ⟨k00, k01, k02, k03, k10, k11, k12, k13, k20, k21, k22, k23, _⟩ := hS2
    go_wp2_with fail
    refine (keepB3 w _ w.heap.size _ _ _ _ _ _ _ _ _ _ _ _ HS2.out (checkP_as a'' b'' c'' p'' 40 HR''.out _ (HE.out.below hb2) hp'')).mono ?_
    rintro e w3 ⟨rfl, hS3⟩
    have hb3 := hS3.2.2.2.2.2.2.2.2.2.2.2.2
    clear hS3 k00 k01 k02 k03 k10 k11 k12 k13 k20 k21 k22 k23
    go_wp2_with fail
    refine (awake_any _ (HE.out.below hb3)).mono ?_
    rintro e w4 ⟨rfl, hb4⟩
    go_wp2_with fail
    go_ret
    exact ⟨rfl, below_then hb3 hb4⟩
  have z1 : p.size ≤ 300 := by have := (verOk_bounds hok).2.2.2.2.2.2.1; rw [← Lib.size_eq] at this; omega
  have z2 : p'.size ≤ 300 := by have := (verOk_bounds hok').2.2.2.2.2.2.1; rw [← Lib.size_eq] at this; omega
  have z3 : p''.size ≤ 300 := by have := (verOk_bounds hok'').2.2.2.2.2.2.1; rw [← Lib.size_eq] at this; omega
  obtain ⟨X, hX⟩ : ∃ X, V4.cmp ⟨a, b, c, p⟩ ⟨a', b', c', p'⟩ = X := ⟨_, rfl⟩
  obtain ⟨Y, hY⟩ : ∃ Y, V4.cmp ⟨a', b', c', p'⟩ ⟨a'', b'', c'', p''⟩ = Y := ⟨_, rfl⟩
  obtain ⟨Z, hZ⟩ : ∃ Z, V4.cmp ⟨a, b, c, p⟩ ⟨a'', b'', c'', p''⟩ = Z := ⟨_, rfl⟩
  obtain ⟨U, hU⟩ : ∃ U, V4.cmp ⟨a', b', c', p'⟩ ⟨a, b, c, p⟩ = U := ⟨_, rfl⟩
  have CX := Lib.hid (fun w hE => cmpP_val ⟨a, b, c, p⟩ ⟨a', b', c', p'⟩ X hX z1 z2 w hE)
  have CY := Lib.hid (fun w hE => cmpP_val ⟨a', b', c', p'⟩ ⟨a'', b'', c'', p''⟩ Y hY z2 z3 w hE)
  have CZ := Lib.hid (fun w hE => cmpP_val ⟨a, b, c, p⟩ ⟨a'', b'', c'', p''⟩ Z hZ z1 z3 w hE)
  have CU := Lib.hid (fun w hE => cmpP_val ⟨a', b', c', p'⟩ ⟨a, b, c, p⟩ U hU z2 z1 w hE)
  have hXU : X = -U := by rw [← hX, ← hU]; exact good_v4.1 _ _
  have u1 : -1 ≤ U := by rw [← hU]; exact (cmpV_small _ _ _ _ _ _ _ _).1
  have u2 : U ≤ 1 := by rw [← hU]; exact (cmpV_small _ _ _ _ _ _ _ _).2
  have hTr : X ≤ 0 → Y ≤ 0 → Z ≤ 0 := by rw [← hX, ← hY, ← hZ]; exact good_v4.2 _ _ _
  obtain ⟨e0, he0⟩ : ∃ e0, decide (a = a' ∧ b = b' ∧ c = c' ∧ p = p') = e0 := ⟨_, rfl⟩
  have hq := fun W => ver_eq a b c p a' b' c' p' e0 he0.symm W
  have hXe : (X == 0) = e0 := by
    rw [← he0, Bool.eq_iff_iff, beq_iff_eq, decide_eq_true_iff]
    constructor
    · intro h0
      rw [← hX] at h0
      obtain ⟨h1, h2, h3, h4⟩ := cmpV_zero hok hok' h0
      exact ⟨h1, h2, h3, by have := congrArg List.toArray h4; exact ByteArray.ext (by simpa using this)⟩
    · rintro ⟨rfl, rfl, rfl, rfl⟩
      rw [← hX]; exact good_v4.self _
  have HTr := Lib.hid hTr
  have HXU := Lib.hid hXU
  have HXe := Lib.hid hXe
  have HQ := Lib.hid hq
  clear hX hY hZ hU hXU hTr he0 hq hXe hok hok' hok''
  go_enter Tryd.func7, Tryd.ntmps7
  go_wp2_with fail
  refine (keepB3 w _ w.heap.size _ _ _ _ _ _ _ _ _ _ _ _ HS0.out (checkP_as a b c p 0 HR.out _ (HE.out.below hW) hp)).mono ?_
  rintro e w1 ⟨rfl, hS1⟩
  have hb1 := hS1.2.2.2.2.2.2.2.2.2.2.2.2
  have HS1 := Lib.hid hS1
  obtain ⟨k00, k01, k02, k03, k10, k11, k12, k13, k20, k21, k22, k23, _⟩ := hS1
  go_wp2_with fail
  refine (keepB3 w _ w.heap.size _ _ _ _ _ _ _ _ _ _ _ _ HS1.out (checkP_as a' b' c' p' 0 HR'.out _ (HE.out.below hb1) hp')).mono ?_
  rintro e w2 ⟨rfl, hS2⟩
  have hb2 := hS2.2.2.2.2.2.2.2.2.2.2.2.2
  have HS2 := Lib.hid hS2
  clear k00 k01 k02 k03 k10 k11 k12 k13 k20 k21 k22 k23
  obtain ⟨k00, k01, k02, k03, k10, k11, k12, k13, k20, k21, k22, k23, _⟩ := hS2
  go_wp2_with fail
  refine (keepB3 w _ w.heap.size _ _ _ _ _ _ _ _ _ _ _ _ HS2.out (checkP_as a'' b'' c'' p'' 0 HR''.out _ (HE.out.below hb2) hp'')).mono ?_
  rintro e w3 ⟨rfl, hS3⟩
  have hb3 := hS3.2.2.2.2.2.2.2.2.2.2.2.2
  clear k00 k01 k02 k03 k10 k11 k12 k13 k20 k21 k22 k23
  obtain ⟨k00, k01, k02, k03, k10, k11, k12, k13, k20, k21, k22, k23, _⟩ := hS3
  go_wp2_with fail
  go_upto_region 3 with fail
  go_cut [7, 8, 9] (fun x y z wx => (x = .int .i64 X ∧ y = .int .i64 Y ∧ z = .int .i64 Z) ∧ (wx.cell? ⟨w.heap.size, 0, none⟩ = some (.int .i64 a) ∧ wx.cell? ⟨w.heap.size, 1, none⟩ = some (.int .i64 b) ∧ wx.cell? ⟨w.heap.size, 2, none⟩ = some (.int .i64 c) ∧ wx.cell? ⟨w.heap.size, 3, none⟩ = some (.string p) ∧ wx.cell? ⟨w.heap.size + 1, 0, none⟩ = some (.int .i64 a') ∧ wx.cell? ⟨w.heap.size + 1, 1, none⟩ = some (.int .i64 b') ∧ wx.cell? ⟨w.heap.size + 1, 2, none⟩ = some (.int .i64 c') ∧ wx.cell? ⟨w.heap.size + 1, 3, none⟩ = some (.string p') ∧ wx.cell? ⟨w.heap.size + 2, 0, none⟩ = some (.int .i64 a'') ∧ wx.cell? ⟨w.heap.size + 2, 1, none⟩ = some (.int .i64 b'') ∧ wx.cell? ⟨w.heap.size + 2, 2, none⟩ = some (.int .i64 c'') ∧ wx.cell? ⟨w.heap.size + 2, 3, none⟩ = some (.string p'') ∧ Below w.heap.size w wx))
  case first =>
    have hd0 := hb3.drew
    go_region_held3 (fun w' => w'.cell? ⟨w.heap.size, 0, none⟩ = some (.int .i64 a) ∧ w'.cell? ⟨w.heap.size, 1, none⟩ = some (.int .i64 b) ∧ w'.cell? ⟨w.heap.size, 2, none⟩ = some (.int .i64 c) ∧ w'.cell? ⟨w.heap.size, 3, none⟩ = some (.string p) ∧ w'.cell? ⟨w.heap.size + 1, 0, none⟩ = some (.int .i64 a') ∧ w'.cell? ⟨w.heap.size + 1, 1, none⟩ = some (.int .i64 b') ∧ w'.cell? ⟨w.heap.size + 1, 2, none⟩ = some (.int .i64 c') ∧ w'.cell? ⟨w.heap.size + 1, 3, none⟩ = some (.string p') ∧ w'.cell? ⟨w.heap.size + 2, 0, none⟩ = some (.int .i64 a'') ∧ w'.cell? ⟨w.heap.size + 2, 1, none⟩ = some (.int .i64 b'') ∧ w'.cell? ⟨w.heap.size + 2, 2, none⟩ = some (.int .i64 c'') ∧ w'.cell? ⟨w.heap.size + 2, 3, none⟩ = some (.string p'') ∧ Below w.heap.size w w') (go_keep)
      (first
        | (go_at_call_of 19 (.agg #[.int .i64 a, .int .i64 b, .int .i64 c, .string p] : Value); go_at_call_of 19 (.agg #[.int .i64 a', .int .i64 b', .int .i64 c', .string p'] : Value); refine (keepB3 w _ w.heap.size _ _ _ _ _ _ _ _ _ _ _ _ (by assumption) (CX.out _ (HE.out.below (And.right (And.right (And.right (And.right (And.right (And.right (And.right (And.right (And.right (And.right (And.right (And.right (by assumption)))))))))))))))).mono ?_; rintro e w4 ⟨rfl, hk4⟩)
        | (go_at_call_of 19 (.agg #[.int .i64 a', .int .i64 b', .int .i64 c', .string p'] : Value); go_at_call_of 19 (.agg #[.int .i64 a'', .int .i64 b'', .int .i64 c'', .string p''] : Value); refine (keepB3 w _ w.heap.size _ _ _ _ _ _ _ _ _ _ _ _ (by assumption) (CY.out _ (HE.out.below (And.right (And.right (And.right (And.right (And.right (And.right (And.right (And.right (And.right (And.right (And.right (And.right (by assumption)))))))))))))))).mono ?_; rintro e w5 ⟨rfl, hk5⟩)
        | (go_at_call_of 19 (.agg #[.int .i64 a, .int .i64 b, .int .i64 c, .string p] : Value); go_at_call_of 19 (.agg #[.int .i64 a'', .int .i64 b'', .int .i64 c'', .string p''] : Value); refine (keepB3 w _ w.heap.size _ _ _ _ _ _ _ _ _ _ _ _ (by assumption) (CZ.out _ (HE.out.below (And.right (And.right (And.right (And.right (And.right (And.right (And.right (And.right (And.right (And.right (And.right (And.right (by assumption)))))))))))))))).mono ?_; rintro e w6 ⟨rfl, hk6⟩))
    all_goals (go_wp2_with fail; go_meet; exact ⟨⟨rfl, rfl, rfl⟩, by assumption⟩)
  case rest =>
    obtain ⟨⟨rfl, rfl, rfl⟩, hSc⟩ := hcut
    have hbc := hSc.2.2.2.2.2.2.2.2.2.2.2.2
    have HSc := Lib.hid hSc
    clear k00 k01 k02 k03 k10 k11 k12 k13 k20 k21 k22 k23
    obtain ⟨k00, k01, k02, k03, k10, k11, k12, k13, k20, k21, k22, k23, _⟩ := hSc
    go_wp2_with fail
    refine (keepB3 w _ w.heap.size _ _ _ _ _ _ _ _ _ _ _ _ HSc.out (CU.out _ (HE.out.below hbc))).mono ?_
    rintro e w7 ⟨rfl, hS7⟩
    have hb7 := hS7.2.2.2.2.2.2.2.2.2.2.2.2
    clear k00 k01 k02 k03 k10 k11 k12 k13 k20 k21 k22 k23
    obtain ⟨k00, k01, k02, k03, k10, k11, k12, k13, k20, k21, k22, k23, _⟩ := hS7
    have hq := HQ.out
    have q1 : (X == -U) = true := by rw [HXU.out]; simp
    rcases (show 0 < X ∨ (X < 0 ∧ 0 < Y) ∨ (X < 0 ∧ Y ≤ 0) ∨ (X = 0 ∧ 0 < Y) ∨ (X = 0 ∧ Y ≤ 0) by omega) with h | ⟨h, h'⟩ | ⟨h, h'⟩ | ⟨h, h'⟩ | ⟨h, h'⟩
    all_goals
      have HXn := HXe.out
      have HZn : Hid (X ≤ 0 → Y ≤ 0 → Z ≤ 0) := HTr.out
      first
        | (have q2 : (X == 0) = true := by simpa using h
           have he : e0 = true := by rw [← HXn]; exact q2)
        | (have q2 : (X == 0) = false := by simp; omega
           have he : e0 = false := by rw [← HXn]; exact q2)
      subst he
      first
        | have q3 : decide (0 < X) = true := by simp; omega
        | have q3 : decide (0 < X) = false := by simp; omega
      first
        | have q4 : decide (0 < Y) = true := by simp; omega
        | have q4 : decide (0 < Y) = false := by simp; omega
        | skip
      first
        | have q5 : decide (Z ≤ 0) = true := by simp; exact HZn.out (by omega) (by omega)
        | skip
      clear HXn h
      go_wp2_with fail
      refine (awake_any _ (HE.out.below hb7)).mono ?_
      rintro e w8 ⟨rfl, hb8⟩
      go_wp2_with fail
      go_ret
      exact ⟨rfl, below_then hb7 hb8⟩
end Go.Proofs.YtkjifpfaekljaaaDoor
