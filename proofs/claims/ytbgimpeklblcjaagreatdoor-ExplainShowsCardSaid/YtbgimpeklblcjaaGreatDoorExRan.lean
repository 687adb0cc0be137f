/- Declarations that only the laws against the reference reach. A range's text, piece by piece, in plain Lean. The library's functions as the ranges' texts call them. The program's ranges: Show: a walk. -/
import GoSem.Core.Utf8
import Derived.Test.YtbgimpeklblcjaaGreatDoorBase
import Derived.Lib.SplitLaws
import Derived.Lib.SlTrimSet
import Derived.Lib.ItoaNum
import Derived.Lib.AtoiAll
import Derived.Lib.IndexBytes
import Derived.Lib.Bytealg
import Derived.Lib.TrimByte
import Derived.Test.YtbgimpeklblcjaaGreatDoorSemMath
import Derived.Test.YtbgimpeklblcjaaGreatDoorCells
import Derived.Deep.LoopGhost
import Derived.RegionTactic
import Derived.ChangeAlike
import Derived.Deep.QuietTactic
import Derived.BigQuiet
import Derived.Deep.RegionWith
import Derived.StillTailTactics
import Derived.Deep.RegionHeld3
import Derived.Deep.DeepCutAuto
import Derived.Outline
import Derived.Test.YtbgimpeklblcjaaGreatDoorSemCom
import Derived.Test.YtbgimpeklblcjaaGreatDoorShelf
import Derived.Test.YtbgimpeklblcjaaGreatDoorShelfE
import Derived.Shelf.Strings.SlTrimAscii
import Derived.Below
import Derived.Lib.Atoi
import Derived.Test.YtbgimpeklblcjaaGreatDoorSemLib
import Derived.Test.YtbgimpeklblcjaaGreatDoorVerMath
import Derived.Test.YtbgimpeklblcjaaGreatDoorCmdMore
import Derived.Test.YtbgimpeklblcjaaGreatDoorSeA
import Derived.Test.YtbgimpeklblcjaaGreatDoorSeB
import Derived.Test.YtbgimpeklblcjaaGreatDoorProg
import Derived.Test.YtbgimpeklblcjaaGreatDoorSeC
namespace Sem4
end Sem4
namespace Go
theorem dig10_len (n : Nat) (h : n ≤ 999999) : (dig10 n).length ≤ 6 := by
 have step : ∀ k n, n < 10 ^ (k + 1) → (dig10 n).length ≤ k + 1 := by
  intro k
  induction k with
  | zero => intro n hn; rw [dig10_lt n (by simpa using hn)]; simp
  | succ k ih =>
   intro n hn
   by_cases h : n < 10
   ·rw [dig10_lt n h]; simp
   ·rw [dig10_ge n (by omega), List.length_append]
    have := ih (n / 10) (by rw [Nat.pow_succ] at hn; omega)
    simp; omega
 exact step 5 n (by simp; omega)
theorem showL_len {a b c : Nat} {p : List UInt8} (ha : a ≤ 999999) (hb : b ≤ 999999) (hc : c ≤ 999999) (hp : p.length ≤ 24) : (showL a b c p).length ≤ 45 := by
 have := dig10_len a ha
 have := dig10_len b hb
 have := dig10_len c hc
 unfold showL showCore
 split <;> simp <;> omega
end Go
namespace Go
theorem decDigits_dig10 (n : Nat) : Lib.decDigits n = dig10 n := by
 induction n using Nat.strongRecOn with
 | ind n ih =>
  by_cases h : n < 10
  ·rw [Lib.decDigits_one h, dig10_lt n h]
  ·rw [Lib.decDigits, dif_neg h, dig10_ge n (by omega), ih _ (by omega)]
theorem itoa_dig10 (n : Nat) : Lib.itoa (n : Int) = dig10 n := by
 unfold Lib.itoa
 rw [if_neg (by omega), Int.toNat_natCast, decDigits_dig10]
end Go
namespace Go
end Go
namespace Go
end Go
namespace Go
end Go
namespace Go
end Go
namespace Go
end Go
namespace Go
section
variable {α : Type} (f : α → α → Int)
variable {f}
end
end Go
namespace Go
open Go.RowKit
theorem dig10_size (n : Nat) (h : n ≤ 999999) : (dig10 n).length ≤ 7 := by
 have h1 : ∀ n, n < 10 → (dig10 n).length ≤ 1 := fun n h => by rw [dig10_lt n h]; simp
 have step : ∀ k n, (∀ m, m < 10 ^ k → (dig10 m).length ≤ k + 1) → n < 10 ^ (k + 1) → (dig10 n).length ≤ k + 2 := by
  intro k n ih hn
  by_cases h : n < 10
  ·have := h1 n h; omega
  ·rw [dig10_ge n (by omega), List.length_append]
   have := ih (n / 10) (by rw [Nat.pow_succ] at hn; omega)
   simp; omega
 have t0 : ∀ m, m < 10 ^ 0 → (dig10 m).length ≤ 0 + 1 := by
  intro m hm
  have : m = 0 := by simpa using hm
  subst this
  exact h1 0 (by decide)
 have t1 := fun n h => step 0 n t0 h
 have t2 := fun n h => step 1 n t1 h
 have t3 := fun n h => step 2 n t2 h
 have t4 := fun n h => step 3 n t3 h
 have t5 := fun n h => step 4 n t4 h
 have t6 := fun n h => step 5 n t5 h
 exact t6 n (by simp; omega)
end Go
namespace Go.Proofs.YtbgimpeklblcjaaGreatDoor
open Go.RowKit
theorem below_growN {B : Nat} {a w : World} (h : Below B a w) (k : Nat) (os : Array Obj) (hB : B ≤ w.heap.size) : Below B a (Sort.grow (w.drewN k) os) := by
 have h1 := below_drewN h k
 refine ⟨h1.os, h1.tape, h1.output, ?_, fun i hi => ?_⟩
 ·show a.heap.size ≤ ((w.drewN k).heap ++ os).size
  have := h1.size
  rw [Array.size_append]; omega
 ·have h2 := h1.block i hi
  show ((w.drewN k).heap ++ os)[i]? = _
  have h3 : i < (w.drewN k).heap.size := Nat.lt_of_lt_of_le hi hB
  rw [Array.getElem?_append_left h3]
  exact h2
theorem itoa_any (n : Nat) (w : World) (hE : EnvI w) (hn : n ≤ 999999) :
  Calls Tryz.prog 75 #[.int .i64 (n : Int)] w fun e w' => e = .returned (.string (S (dig10 n))) ∧ Below w.heap.size w w' :=
 (Tryz.strconv_Itoa n (by omega) (by omega) w hE.2.2).mono fun _ _ ⟨h1, k, os, h2⟩ => ⟨by rw [h1, itoa_dig10]; rfl, by rw [h2]; exact below_growN (Below.refl _ _) k os (Nat.le_refl _)⟩
end Go.Proofs.YtbgimpeklblcjaaGreatDoor
namespace Go
theorem sepAt_ne (c : UInt8) (l : List UInt8) : sepAt c l ≠ [] := by
 induction l with
 | nil => simp [sepAt]
 | cons x l ih =>
  unfold sepAt
  split
  ·simp
  ·split <;> simp
theorem sepAt_count (c : UInt8) (l : List UInt8) : (sepAt c l).length = l.count c + 1 := by
 induction l with
 | nil => rfl
 | cons x l ih =>
  by_cases h : x = c
  ·subst h; rw [sepAt, if_pos rfl, List.count_cons_self, List.length_cons, ih]
  ·rw [sepAt, if_neg h, List.count_cons_of_ne h]
   split
   ·rename_i hd; exact absurd hd (sepAt_ne c l)
   ·rename_i hd; rw [hd] at ih; simpa using ih
theorem joinAt_sep (c : UInt8) (l : List UInt8) : joinAt c (sepAt c l) = l := by
 induction l with
 | nil => rfl
 | cons x l ih =>
  have hne := sepAt_ne c l
  by_cases h : x = c
  ·subst h
   rw [sepAt, if_pos rfl]
   cases hd : sepAt x l with
   | nil => exact absurd hd hne
   | cons p ps => rw [hd] at ih; rw [joinAt, ih]; rfl
  ·rw [sepAt, if_neg h]
   cases hd : sepAt c l with
   | nil => exact absurd hd hne
   | cons p ps =>
    rw [hd] at ih
    cases ps with
    | nil => simp [joinAt] at ih ⊢; exact ih
    | cons q qs => rw [joinAt] at ih ⊢; rw [List.cons_append, ih]
theorem splitK_sep (c : UInt8) (n : Nat) : ∀ (l : List UInt8), l.length ≤ n → Lib.splitK [c] 0 (l.count c) l = sepAt c l := by
 induction n with
 | zero => intro l h; obtain rfl : l = [] := List.eq_nil_of_length_eq_zero (by omega); rfl
 | succ n ih =>
  intro l hl
  cases hc : l.count c with
  | zero =>
   have hn : ∀ x ∈ l, x ≠ c := by
    rintro x hx rfl
    have := List.count_pos_iff.2 hx
    omega
   rw [sepAt_none hn]; rfl
  | succ k =>
   have hm : c ∈ l := List.count_pos_iff.1 (by omega)
   obtain ⟨x, y, rfl, hx⟩ : ∃ x y, l = x ++ c :: y ∧ ∀ z ∈ x, z ≠ c := by
    clear hl hc
    induction l with
    | nil => cases hm
    | cons a l ih =>
     by_cases ha : a = c
     ·subst ha; exact ⟨[], l, rfl, by simp⟩
     ·obtain ⟨x, y, h1, h2⟩ := ih (by rcases List.mem_cons.1 hm with h | h; exact absurd h.symm ha; exact h)
      refine ⟨a :: x, y, by rw [h1]; rfl, fun z hz => ?_⟩
      rcases List.mem_cons.1 hz with rfl | h
      ·exact ha
      ·exact h2 z h
   have hx0 : x.count c = 0 := List.count_eq_zero.2 (fun h => hx _ h rfl)
   rw [List.count_append, hx0, List.count_cons_self] at hc
   have hi : Lib.index (x ++ c :: y) [c] = (x.length : Int) := by
    rw [Lib.index_one]
    clear hl hc hm hx0
    induction x with
    | nil => simp [Lib.indexByte]
    | cons a x ih =>
     have := ih (fun z hz => hx z (by simp [hz]))
     have ha := hx a (by simp)
     have hb : (a == c) = false := by simpa using ha
     rw [List.cons_append, Lib.indexByte, hb, this]
     have : ((x.length : Int) == -1) = false := by simp
     rw [this]
     simp
   rw [sepAt_app y hx]
   unfold Lib.splitK
   have : ((x.length : Int) == -1) = false := by simp
   rw [hi, this]
   simp only [Int.toNat_natCast, Nat.add_zero, List.length_singleton, Bool.false_eq_true, if_false]
   rw [List.take_left', show (x ++ c :: y).drop (x.length + 1) = y by simp]
   ·have hk : k = y.count c := by omega
    rw [hk, ih y (by simp at hl; omega)]
   ·rfl
theorem split_sep (c : UInt8) (s : ByteArray) : (Lib.splitB ⟨#[c]⟩ 0 (Lib.countB s ⟨#[c]⟩) s) = (sepAt c s.data.toList).map S := by
 have h := Lib.splitB_data ⟨#[c]⟩ 0 (Lib.countB s ⟨#[c]⟩) s
 have hc : Lib.countB s ⟨#[c]⟩ = s.data.toList.count c := by
  show Lib.count _ _ = _
  exact Lib.count_one c _
 rw [hc] at h ⊢
 rw [show (⟨#[c]⟩ : ByteArray).data.toList = [c] from rfl, splitK_sep _ _ _ (Nat.le_refl _)] at h
 have := congrArg (List.map S) h
 rw [List.map_map] at this
 rw [← this]
 conv => lhs; rw [← List.map_id (Lib.splitB _ _ _ _)]
 rfl
theorem countB_sep (c : UInt8) (s : ByteArray) : Lib.countB s ⟨#[c]⟩ + 1 = (sepAt c s.data.toList).length := by
 rw [sepAt_count]
 have : Lib.countB s ⟨#[c]⟩ = s.data.toList.count c := by
  show Lib.count _ _ = _
  exact Lib.count_one c _
 rw [this]
end Go
namespace Go
open Go.RowKit
def showR (bs : List Bnd) : List UInt8 := if bs.isEmpty then [42] else showB bs
end Go
namespace Go
open Go.RowKit
theorem idx_sign (x : UInt8) : decide (0 ≤ Lib.indexByte [60, 62, 61] x) = isSign x := by
 by_cases h1 : x = 60
 ·subst h1; decide
 by_cases h2 : x = 62
 ·subst h2; decide
 by_cases h3 : x = 61
 ·subst h3; decide
 have q1 : ((60 : UInt8) == x) = false := by simpa using fun h => h1 h.symm
 have q2 : ((62 : UInt8) == x) = false := by simpa using fun h => h2 h.symm
 have q3 : ((61 : UInt8) == x) = false := by simpa using fun h => h3 h.symm
 simp [Lib.indexByte, q1, q2, q3, isSign, h1, h2, h3]
end Go
namespace Go.Proofs.YtbgimpeklblcjaaGreatDoor
open Go.RowKit
theorem checkP_as (a b c : Int) (p : ByteArray) (r : Int) (h : verErr a b c p.data.toList = r) (w : World) (hE : Env w) (hs : p.size ≤ 9223372036854775807) :
  Calls Tryz.prog 27 #[.agg #[.int .i64 a, .int .i64 b, .int .i64 c, .string p]] w fun e w' => e = .returned (.int .i64 r) ∧ Below w.heap.size w w' := by
 subst h; exact check_any a b c p w hE hs
end Go.Proofs.YtbgimpeklblcjaaGreatDoor
namespace Go.Proofs.YtbgimpeklblcjaaGreatDoor
open Go.RowKit
theorem itoa_keep (n : Nat) (w0 w : World) (hE : EnvI w0) (hn : n ≤ 999999) (A : ByteArray) (hA : S (dig10 n) = A) (B : Nat) (x y z : Value)
  (h : w.cell? ⟨B, 0, none⟩ = some x ∧ w.cell? ⟨B, 1, none⟩ = some y ∧ w.cell? ⟨B, 2, none⟩ = some z ∧ Below w0.heap.size w0 w) :
  Calls Tryz.prog 75 #[.int .i64 (n : Int)] w fun e w' => e = .returned (.string A) ∧
   (w'.cell? ⟨B, 0, none⟩ = some x ∧ w'.cell? ⟨B, 1, none⟩ = some y ∧ w'.cell? ⟨B, 2, none⟩ = some z ∧ Below w0.heap.size w0 w') := by
 subst hA
 obtain ⟨h0, h1, h2, h3⟩ := h
 refine (itoa_any n w (hE.below h3) hn).mono fun _ _ ⟨he, hb⟩ => ⟨he, ?_, ?_, ?_, below_then h3 hb⟩
 ·exact (hb.cell (p := ⟨B, 0, none⟩) (cell_lt h0)).trans h0
 ·exact (hb.cell (p := ⟨B, 1, none⟩) (cell_lt h1)).trans h1
 ·exact (hb.cell (p := ⟨B, 2, none⟩) (cell_lt h2)).trans h2
set_option maxRecDepth 100000 in
set_option maxHeartbeats 1000000 in
theorem show_no (a b c : Int) (p : ByteArray) (w : World) (hE : Env w) (hs : p.size ≤ 9223372036854775807) (h : verErr a b c p.data.toList = 40) :
  Calls Tryz.prog 42 #[.agg #[.int .i64 a, .int .i64 b, .int .i64 c, .string p]] w fun e w' => e = .returned (.tuple #[.string ⟨#[]⟩, .int .i64 40]) ∧ Below w.heap.size w w' := by
 have H := Lib.hid h
 have HE := Lib.hid (hE.alloc (.cells #[.int .i64 a, .int .i64 b, .int .i64 c, .string p] 41))
 clear h hE
 go_enter Tryz.func42, Tryz.ntmps42
 go_wp2_with fail
 refine (checkP_as _ _ _ _ 40 H.out _ HE.out hs).mono ?_
 rintro e w1 ⟨rfl, hb1⟩
 have hbw := below_first (box_of hb1)
 go_wp2_with fail
 go_ret2
 exact ⟨rfl, hbw⟩
set_option maxRecDepth 100000 in
set_option maxHeartbeats 2000000 in
theorem show_yes (a b c : Nat) (p : ByteArray) (w : World) (hE : EnvI w) (hs : p.size ≤ 24) (ha : a ≤ 999999) (hb : b ≤ 999999) (hc : c ≤ 999999) (h : verErr a b c p.data.toList = 0) :
  Calls Tryz.prog 42 #[.agg #[.int .i64 (a : Int), .int .i64 (b : Int), .int .i64 (c : Int), .string p]] w fun e w' => e = .returned (.tuple #[.string (S (showL a b c p.data.toList)), .int .i64 0]) ∧ Below w.heap.size w w' := by
 have H := Lib.hid h
 have HE0 := Lib.hid hE
 have HE := Lib.hid (hE.env.alloc (.cells #[.int .i64 (a : Int), .int .i64 (b : Int), .int .i64 (c : Int), .string p] 41))
 clear h hE
 have sa := dig10_size a ha
 have sb := dig10_size b hb
 have sc := dig10_size c hc
 obtain ⟨A, hA⟩ : ∃ A, S (dig10 a) = A := ⟨_, rfl⟩
 obtain ⟨B, hB⟩ : ∃ B, S (dig10 b) = B := ⟨_, rfl⟩
 obtain ⟨C, hC⟩ : ∃ C, S (dig10 c) = C := ⟨_, rfl⟩
 have zA : A.size ≤ 7 := by rw [← hA, S_size]; exact sa
 have zB : B.size ≤ 7 := by rw [← hB, S_size]; exact sb
 have zC : C.size ≤ 7 := by rw [← hC, S_size]; exact sc
 have HA := Lib.hid hA
 have HB := Lib.hid hB
 have HC := Lib.hid hC
 clear hA hB hC sa sb sc
 have r1 : ∀ W, (Op.stringOp .add A ⟨#[46]⟩).run Tryz.prog W = .ok (.string (A ++ ⟨#[46]⟩)) W := fun W => run_string_add_sum W _ _ (by rw [show (⟨#[46]⟩ : ByteArray).size = 1 from rfl]; omega)
 have r2 : ∀ W, (Op.stringOp .add (A ++ ⟨#[46]⟩) B).run Tryz.prog W = .ok (.string (A ++ ⟨#[46]⟩ ++ B)) W := fun W => run_string_add_sum W _ _ (by rw [ByteArray.size_append, show (⟨#[46]⟩ : ByteArray).size = 1 from rfl]; omega)
 have r3 : ∀ W, (Op.stringOp .add (A ++ ⟨#[46]⟩ ++ B) ⟨#[46]⟩).run Tryz.prog W = .ok (.string (A ++ ⟨#[46]⟩ ++ B ++ ⟨#[46]⟩)) W := fun W => run_string_add_sum W _ _ (by rw [ByteArray.size_append, ByteArray.size_append, show (⟨#[46]⟩ : ByteArray).size = 1 from rfl]; omega)
 have r4 : ∀ W, (Op.stringOp .add (A ++ ⟨#[46]⟩ ++ B ++ ⟨#[46]⟩) C).run Tryz.prog W = .ok (.string (A ++ ⟨#[46]⟩ ++ B ++ ⟨#[46]⟩ ++ C)) W := fun W => run_string_add_sum W _ _ (by rw [ByteArray.size_append, ByteArray.size_append, ByteArray.size_append, show (⟨#[46]⟩ : ByteArray).size = 1 from rfl]; omega)
 go_enter Tryz.func42, Tryz.ntmps42
 go_wp2_with fail
 refine (checkP_as _ _ _ _ 0 H.out _ HE.out (by omega)).mono ?_
 rintro e w1 ⟨rfl, hb1⟩
 have hb2 := box_of hb1
 have hbw := below_first hb2
 have c0 := box_cells hb2 0
 have c1 := box_cells hb2 1
 have c2 := box_cells hb2 2
 have c3 := box_cells hb2 3
 simp at c0 c1 c2 c3
 clear hb1 hb2
 have hb0 : Below w1.heap.size w1 w1 := Below.refl _ _
 have hB0 := cell_lt c0
 have hE1 := Lib.hid (HE0.out.below hbw)
 go_wp2_with fail
 go_upto_region 4 with fail
 go_cut [5] (fun s wx => s = .string (A ++ ⟨#[46]⟩ ++ B ++ ⟨#[46]⟩ ++ C) ∧ Below w1.heap.size w1 wx)
 case first =>
  have hd0 : Below w1.heap.size w1 w1.drew := (Below.refl _ _).drew
  go_region_held3 (fun w' => w'.cell? ⟨w.heap.size, 0, none⟩ = some (.int .i64 (a : Int)) ∧ w'.cell? ⟨w.heap.size, 1, none⟩ = some (.int .i64 (b : Int)) ∧ w'.cell? ⟨w.heap.size, 2, none⟩ = some (.int .i64 (c : Int)) ∧ Below w1.heap.size w1 w') (go_keep)
   (first
    | (go_at_call_of 75 (Value.int .i64 (a : Int)); refine (itoa_keep a w1 _ hE1.out ha A HA.out w.heap.size _ _ _ (by assumption)).mono ?_; rintro e w2 ⟨rfl, hk1⟩)
    | (go_at_call_of 75 (Value.int .i64 (b : Int)); refine (itoa_keep b w1 _ hE1.out hb B HB.out w.heap.size _ _ _ (by assumption)).mono ?_; rintro e w2 ⟨rfl, hk2⟩)
    | (go_at_call_of 75 (Value.int .i64 (c : Int)); refine (itoa_keep c w1 _ hE1.out hc C HC.out w.heap.size _ _ _ (by assumption)).mono ?_; rintro e w2 ⟨rfl, hk3⟩))
  all_goals (go_wp2_with fail; go_meet; first | exact ⟨rfl, hk3.2.2.2⟩ | exact ⟨rfl, hk2.2.2.2⟩ | exact ⟨rfl, hk1.2.2.2⟩)
 case rest =>
  obtain ⟨rfl, hb5⟩ := hcut
  have c3' := (hb5.cell (p := ⟨w.heap.size, 3, none⟩) hB0).trans c3
  have hbw5 := below_then hbw hb5
  obtain ⟨T, hT⟩ : ∃ T, A ++ ⟨#[46]⟩ ++ B ++ ⟨#[46]⟩ ++ C = T := ⟨_, rfl⟩
  have hTs : T.size ≤ 30 := by
   rw [← hT, ByteArray.size_append, ByteArray.size_append, ByteArray.size_append, ByteArray.size_append, show (⟨#[46]⟩ : ByteArray).size = 1 from rfl]; omega
  have HT : Hid (T = S (showCore a b c)) := by
   show _ = _
   rw [← hT, ← HA.out, ← HB.out, ← HC.out]
   unfold showCore
   rw [← S_append, ← S_append, ← S_append, ← S_append]; rfl
  rw [hT]
  clear hT r1 r2 r3 r4 c0 c1 c2 c3 hbw hb5
  cases hem : p.toList.isEmpty
  ·have HF : Hid (T ++ (⟨#[45]⟩ ++ p) = S (showL a b c p.data.toList)) := by
    show _ = _
    rw [Lib.toList_data] at hem
    unfold showL
    rw [HT.out, hem]
    simp only [Bool.false_eq_true, if_false]
    rw [← S_append, ← S_append, ByteArray.append_assoc]; rfl
   go_wp2_with fail
   go_ret2
   exact ⟨by rw [← HF.out]; rfl, hbw5⟩
  ·have HF : Hid (T = S (showL a b c p.data.toList)) := by
    show _ = _
    rw [Lib.toList_data] at hem
    unfold showL
    rw [HT.out, hem]; rfl
   go_wp2_with fail
   go_ret2
   exact ⟨by rw [← HF.out]; rfl, hbw5⟩
end Go.Proofs.YtbgimpeklblcjaaGreatDoor
namespace Go
end Go
namespace Go.Proofs.YtbgimpeklblcjaaGreatDoor
open Go.RowKit
end Go.Proofs.YtbgimpeklblcjaaGreatDoor
namespace Go
open Go.RowKit
end Go
namespace Go.Proofs.YtbgimpeklblcjaaGreatDoor
open Go.RowKit Go.Maps
end Go.Proofs.YtbgimpeklblcjaaGreatDoor
namespace Go
end Go

namespace Go
open Go.RowKit
/-- the first pieces read as these bounds -/
def BoundsAre : List (List UInt8) → List Bnd → Prop
 | [], [] => True
 | p :: ps, b :: bs => b.ok = true ∧ b.show = p ∧ BoundsAre ps bs
 | _, _ => False
theorem BoundsAre.len : ∀ {ps bs}, BoundsAre ps bs → ps.length = bs.length
 | [], [], _ => rfl
 | [], _ :: _, h => h.elim
 | _ :: _, [], h => h.elim
 | _ :: _, _ :: _, h => by simp [BoundsAre.len h.2.2]
theorem BoundsAre.iff : ∀ {ps bs}, BoundsAre ps bs ↔ ps = bs.map Bnd.show ∧ ∀ b ∈ bs, b.ok = true
 | [], [] => by simp [BoundsAre]
 | [], _ :: _ => by simp [BoundsAre]
 | _ :: _, [] => by simp [BoundsAre]
 | p :: ps, b :: bs => by
  simp only [BoundsAre, BoundsAre.iff (ps := ps) (bs := bs), List.map_cons, List.cons.injEq, List.mem_cons, forall_eq_or_imp]
  constructor
  ·rintro ⟨h1, h2, h3, h4⟩; exact ⟨⟨h2.symm, h3⟩, h1, h4⟩
  ·rintro ⟨⟨h2, h3⟩, h1, h4⟩; exact ⟨h1, h2.symm, h3, h4⟩
theorem BoundsAre.snoc {ps : List (List UInt8)} {bs : List Bnd} {p : List UInt8} {b : Bnd} (h : BoundsAre ps bs) (hb : b.ok = true) (hs : b.show = p) : BoundsAre (ps ++ [p]) (bs ++ [b]) := by
 rw [BoundsAre.iff] at h ⊢
 refine ⟨by rw [h.1, List.map_append, ← hs]; rfl, fun x hx => ?_⟩
 rcases List.mem_append.1 hx with h1 | h1
 ·exact h.2 x h1
 ·simp at h1; subst h1; exact hb
/-- not '*', not '^': what else a range may be -/
theorem range_else {l : List UInt8} {bs : List Bnd} (h1 : l ≠ [42]) (h2 : l.head? ≠ some 94) (h : RangeIs l bs) : bs ≠ [] ∧ bs.length ≤ 20 ∧ BoundsAre (sepAt 32 l) bs ∧ showB bs = l := by
 rcases h with ⟨g1, _⟩ | ⟨r, v, g1, _, _⟩ | ⟨g1, g2, g3⟩
 ·exact absurd g1 h1
 ·rw [g1] at h2; exact absurd rfl h2
 ·have ha := rangeOk_all g2
  refine ⟨g1, ha.1, ?_, g3⟩
  rw [BoundsAre.iff, ← g3]
  exact ⟨showB_sep g1 ha.2, ha.2⟩
theorem range_yes {l : List UInt8} {bs : List Bnd} (h : BoundsAre (sepAt 32 l) bs) (hn : bs.length ≤ 20) : RangeIs l bs := by
 have hl := h.len
 rw [BoundsAre.iff] at h
 refine .inr (.inr ⟨?_, ?_, ?_⟩)
 ·intro e; rw [e] at hl; exact sepAt_ne 32 l (List.eq_nil_of_length_eq_zero hl)
 ·unfold rangeOk
  rw [decide_eq_true hn, List.all_eq_true.2 h.2]; rfl
 ·unfold showB; rw [← h.1, joinAt_sep]
theorem range_no {l : List UInt8} (h1 : l ≠ [42]) (h2 : l.head? ≠ some 94) (k : Nat) (hk : k < (sepAt 32 l).length) (h : (20 ≤ k) ∨ ∀ b : Bnd, b.ok = true → b.show ≠ (sepAt 32 l)[k]) : RParseIs l [] 50 := by
 refine .inr ⟨rfl, rfl, fun bs hb => ?_⟩
 obtain ⟨g1, g2, g3, g4⟩ := range_else h1 h2 hb
 have hl := g3.len
 rcases h with h | h
 ·omega
 ·rw [BoundsAre.iff] at g3
  have hkb : k < bs.length := by omega
  refine h bs[k] (g3.2 _ (List.getElem_mem hkb)) ?_
  have : (sepAt 32 l)[k]? = (bs.map Bnd.show)[k]? := by rw [← g3.1]
  rw [List.getElem?_eq_getElem hk, List.getElem?_map, List.getElem?_eq_getElem hkb] at this
  simpa using this.symm
theorem joinAt_len (c : UInt8) (N : Nat) : ∀ ls : List (List UInt8), (∀ p ∈ ls, p.length ≤ N) → (joinAt c ls).length ≤ ls.length * (N + 1)
 | [], _ => by simp [joinAt]
 | [p], h => by
  have := h p (by simp)
  rw [joinAt]; simp; omega
 | p :: q :: r, h => by
  have h1 := h p (by simp)
  have h2 := joinAt_len c N (q :: r) (fun x hx => h x (by simp at hx ⊢; right; exact hx))
  rw [joinAt, List.length_append, List.length_cons, List.length_cons, Nat.add_mul, Nat.one_mul]
  omega
theorem signL_len (op : Int) : (signL op).length ≤ 2 := by
 unfold signL
 split
 ·decide
 ·split
  ·decide
  ·split
   ·decide
   ·split
    ·decide
    ·split <;> decide
theorem show_len {b : Bnd} (h : b.ok = true) : b.show.length ≤ 60 := by
 unfold Bnd.ok at h
 rw [Bool.and_eq_true] at h
 have hb := verOk_bounds h.2
 have h1 := dig10_size b.v.a.toNat (by omega)
 have h2 := dig10_size b.v.b.toNat (by omega)
 have h3 := dig10_size b.v.c.toNat (by omega)
 have h4 := signL_len b.op
 unfold Bnd.show V4.show showL showCore
 split
 ·simp only [List.length_append, List.length_cons, List.length_nil]; omega
 ·simp only [List.length_append, List.length_cons, List.length_nil]; omega
theorem range_len {l : List UInt8} {bs : List Bnd} (h1 : l ≠ [42]) (h2 : l.head? ≠ some 94) (h : RangeIs l bs) : l.length ≤ 2000 := by
 obtain ⟨g1, g2, g3, g4⟩ := range_else h1 h2 h
 rw [BoundsAre.iff] at g3
 rw [← g4]
 unfold showB
 have := joinAt_len 32 60 (bs.map Bnd.show) (fun p hp => by
  rw [List.mem_map] at hp
  obtain ⟨b, hb, rfl⟩ := hp
  exact show_len (g3.2 b hb))
 rw [List.length_map] at this
 omega
/-- what reading a range comes to -/
def RParseAs (l : List UInt8) (w : World) (e : Ending) (w' : World) : Prop :=
 ∃ (x : Value) (bs : List Bnd) (er : Int), e = .returned (.tuple #[x, .int .i64 er]) ∧ Bnds w' x bs ∧ (∃ a cap, x = .slice a bs.length cap) ∧ RParseIs l bs er ∧ Below w.heap.size w w' ∧ FreshV w.heap.size x
theorem bnds_nil (w : World) : Bnds w (.slice none 0 0) [] := ⟨rfl, Nat.zero_le _, .inl ⟨_, _, rfl, rfl, by simp⟩⟩
theorem rparse_err {l : List UInt8} {w w' : World} (h : RParseIs l [] 50) (hb : Below w.heap.size w w') : RParseAs l w (.returned (.tuple #[.slice none 0 0, .int .i64 50])) w' :=
 ⟨_, [], 50, rfl, bnds_nil _, ⟨none, 0, rfl⟩, h, hb, FreshV.nil _ _ _⟩
theorem rparse_star {l : List UInt8} {w w' : World} (h : l = [42]) (hb : Below w.heap.size w w') : RParseAs l w (.returned (.tuple #[.slice none 0 0, .int .i64 0])) w' :=
 ⟨_, [], 0, rfl, bnds_nil _, ⟨none, 0, rfl⟩, .inl ⟨rfl, .inl ⟨h, rfl⟩⟩, hb, FreshV.nil _ _ _⟩
theorem rparse_near {l r : List UInt8} {v : V4} (h : l = 94 :: r) (hv : v.IsShow r) : RParseIs l (near v) 0 := .inl ⟨rfl, .inr (.inl ⟨r, v, h, hv, rfl⟩)⟩
theorem rparse_nonear {l r : List UInt8} (h : l = 94 :: r) (hv : ∀ a b c p, ¬ IsShow a b c p r) : RParseIs l [] 50 := by
 refine .inr ⟨rfl, rfl, fun bs hb => ?_⟩
 rcases hb with ⟨g1, _⟩ | ⟨r', v, g1, g2, _⟩ | ⟨g1, g2, g3⟩
 ·rw [h] at g1; simp at g1
 ·rw [h] at g1; simp at g1; subst g1
  exact hv _ _ _ _ ⟨g2.1, g2.2⟩
 ·obtain ⟨x, t, e, hx⟩ := showB_head g1 (rangeOk_all g2).2
  rw [g3, h] at e; simp at e; rw [← e.1] at hx; exact absurd hx (by decide)
theorem rparse_long {l : List UInt8} (h1 : l ≠ [42]) (h2 : l.head? ≠ some 94) (h : 2000 < l.length) : RParseIs l [] 50 := .inr ⟨rfl, rfl, fun bs hb => by have := range_len h1 h2 hb; omega⟩
end Go

namespace Go.Proofs.YtbgimpeklblcjaaGreatDoor
open Go.RowKit
theorem index_sign (x : UInt8) (r : Bool) (h : isSign x = r) (w : World) :
  Calls Tryz.prog 202 #[.string ⟨#[60, 62, 61]⟩, .int .u8 (x.toNat : Int)] w fun e w' => ∃ n : Int, e = .returned (.int .i64 n) ∧ decide (0 ≤ n) = r ∧ w' = w := by
 refine (Tryz.strings_IndexByte ⟨#[60, 62, 61]⟩ (x.toNat : Int) w).mono fun e w' ⟨h1, h2⟩ => ⟨_, h1, ?_, h2⟩
 rw [← h, ← idx_sign, show (⟨#[60, 62, 61]⟩ : ByteArray).data.toList = [60, 62, 61] from rfl, show ((x.toNat : Int).toNat.toUInt8) = x by simp]
theorem splitB_any (s : ByteArray) (w : World) (hE : Env w) (hs : s.size < 4294967281) :
  Calls Tryz.prog 56 #[.string s, .string ⟨#[32]⟩] w fun e w' => ∃ v, e = .returned v ∧ Strs w' v (sepAt 32 s.data.toList) ∧ Below w.heap.size w w' := by
 obtain ⟨m, hm⟩ := hE.1
 refine (Tryz.strings_Split s ⟨#[32]⟩ m w hs hm (by decide)).mono fun e w' ⟨he, hw⟩ => ⟨_, he, ?_, ?_⟩
 ·rw [hw, split_sep, countB_sep]
  have e1 : ((List.map S (sepAt 32 s.data.toList)).map Value.string) = strs (sepAt 32 s.data.toList) := by
   unfold strs; rw [List.map_map]; rfl
  rw [e1]
  have hn : 0 < (sepAt 32 s.data.toList).length := List.length_pos_iff.2 (sepAt_ne _ _)
  have hl : (sepAt 32 s.data.toList).length ≤ s.size + 1 := by
   rw [sepAt_count, Lib.size_eq]; have := List.count_le_length (a := (32 : UInt8)) (l := s.data.toList); omega
  refine ⟨by rw [strs_length]; omega, by unfold maxLen; omega, .inr ⟨w.heap.size, 0, _, rfl, hn, by simp, fun j hj => ?_⟩⟩
  simp only [World.cell?, Below_heap_new, Nat.zero_add, Option.isSome_none, Bool.false_eq_true, if_false]
  simp
 ·rw [hw]; exact (Below.refl _ _).alloc (Nat.le_refl _) _
theorem join_tail (c : UInt8) (p : List UInt8) : ∀ (qs : List (List UInt8)), joinAt c (p :: qs) = p ++ Lib.joinTail [c] qs := by
 intro qs
 induction qs generalizing p with
 | nil => simp [joinAt, Lib.joinTail]
 | cons q qs ih => rw [joinAt, ih]; simp [Lib.joinTail]
theorem join_at (ls : List (List UInt8)) : Lib.join ls [32] = joinAt 32 ls := by
 cases ls with
 | nil => rfl
 | cons p qs => rw [Lib.join_cons, join_tail]
theorem joinB_any (v : Value) (ls : List (List UInt8)) (w : World) (hv : Strs w v ls) (hn : 0 < ls.length) (hcap : ∀ a n c, v = .slice a n c → n ≤ c) (hl : (joinAt 32 ls).length ≤ 100000) (hN : ls.length ≤ 1000) :
  Calls Tryz.prog 100 #[v, .string ⟨#[32]⟩] w fun e w' => e = .returned (.string (S (joinAt 32 ls))) ∧ Below w.heap.size w w' := by
 obtain ⟨bx, ox, cap, rfl, hbx, hc⟩ := hv.full hn
 have hj : ∀ ls : List (List UInt8), Lib.join ((ls.map S).map (·.data.toList)) (⟨#[32]⟩ : ByteArray).data.toList = joinAt 32 ls := by
  intro ls
  rw [List.map_map, show ((fun x : ByteArray => x.data.toList) ∘ S) = id from rfl, List.map_id]
  exact join_at ls
 have hx : (ls.map S).length = ls.length := by simp
 have h := Tryz.strings_Join bx ox cap (ls.map S) ⟨#[32]⟩ w ?_ hbx ?_ ?_ ?_
 ·rw [hx, hj] at h
  exact h
 ·intro j x hjx
  rw [List.getElem?_map] at hjx
  cases hq : ls[j]? with
  | none => rw [hq] at hjx; cases hjx
  | some l =>
   rw [hq] at hjx
   obtain ⟨h1, h2⟩ := List.getElem?_eq_some_iff.1 hq
   have := hc j h1
   rw [h2] at this
   injection hjx with hjx
   subst hjx; exact this
 ·rw [hx]; omega
 ·rw [hx]; exact hcap _ _ _ rfl
 ·rw [hj]; omega
end Go.Proofs.YtbgimpeklblcjaaGreatDoor

namespace Go.Proofs.YtbgimpeklblcjaaGreatDoor
open Go.RowKit
theorem info_str : (Tryz.prog.info? 9).map (fun i => (i.zero, i.size, i.bytes)) = some (some (.string ⟨#[]⟩), 1, 16) := by kernel_rfl
theorem showQ_any (v : V4) (h : v.ok = true) (T : ByteArray) (hT : S v.show = T) (w : World) (hE : EnvI w) :
  Calls Tryz.prog 42 #[.agg #[.int .i64 v.a, .int .i64 v.b, .int .i64 v.c, .string v.p]] w fun e w' => e = .returned (.tuple #[.string T, .int .i64 0]) ∧ Below w.heap.size w w' := by
 have hb := verOk_bounds h
 have e1 : ((v.a.toNat : Nat) : Int) = v.a := by omega
 have e2 : ((v.b.toNat : Nat) : Int) = v.b := by omega
 have e3 : ((v.c.toNat : Nat) : Int) = v.c := by omega
 have hv : verErr v.a v.b v.c v.p.data.toList = 0 := by unfold verErr; rw [if_pos (show verOk v.a v.b v.c v.p.data.toList = true from h)]
 have := show_yes v.a.toNat v.b.toNat v.c.toNat v.p w hE (by rw [Lib.size_eq]; omega) (by omega) (by omega) (by omega) (by rw [e1, e2, e3]; exact hv)
 rw [e1, e2, e3] at this
 subst hT
 exact this
theorem rcheck_as (v : Value) (bs : List Bnd) (r : Int) (h : rangeErr bs = r) (w : World) (hv : Bnds w v bs) (hlen : ∃ a cap, v = .slice a bs.length cap) (hE : Env w) (hp : ∀ x ∈ bs, x.v.p.size ≤ 9223372036854775807) :
  Calls Tryz.prog 49 #[v] w fun e w' => e = .returned (.int .i64 r) ∧ Below w.heap.size w w' := by
 subst h; exact rcheck_any v bs w hv hlen hE hp
theorem own_cap {w : World} {B : Nat} {e : TypeId} {v : Value} {n : Nat} {xs : List Value} (h : w.ownsRow B e 1 v n xs) (hn : 0 < n) : ∀ a m c, v = .slice a m c → m ≤ c := by
 obtain ⟨h1, h2 | ⟨g, cap, cur, hv, h3, h4, h5, h6, h7, h8⟩⟩ := h
 ·omega
 ·rintro a m c rfl
  injection hv with e1 e2 e3
  omega
def ShRel (bs : List Bnd) (w1 : World) (v i : Value) (wr : World) : Prop :=
 ∃ k : Nat, k ≤ bs.length ∧ i = .int .i64 (k : Int) ∧ wr.ownsRow w1.heap.size 9 1 v k (strs ((bs.take k).map Bnd.show)) ∧ Below w1.heap.size w1 wr
set_option maxRecDepth 100000 in
set_option maxHeartbeats 2000000 in
theorem rshow_no (v : Value) (bs : List Bnd) (w : World) (hv : Bnds w v bs) (hlen : ∃ a cap, v = .slice a bs.length cap) (hE : Env w) (hp : ∀ x ∈ bs, x.v.p.size ≤ 9223372036854775807) (h : rangeErr bs = 50) :
  Calls Tryz.prog 64 #[v] w fun e w' => e = .returned (.tuple #[.string ⟨#[]⟩, .int .i64 50]) ∧ Below w.heap.size w w' := by
 have H := Lib.hid (rcheck_as v bs 50 h w hv hlen hE hp)
 clear h hv hlen hE hp
 go_enter Tryz.func64, Tryz.ntmps64
 go_wp2_with fail
 refine H.out.mono ?_
 rintro e w1 ⟨rfl, hb1⟩
 go_wp2_with fail
 go_ret2
 exact ⟨rfl, hb1⟩
set_option maxRecDepth 100000 in
set_option maxHeartbeats 4000000 in
theorem rshow_yes (v : Value) (bs : List Bnd) (w : World) (hv : Bnds w v bs) (hlen : ∃ a cap, v = .slice a bs.length cap) (hE : EnvI w) (hp : ∀ x ∈ bs, x.v.p.size ≤ 9223372036854775807) (h : rangeOk bs = true) :
  Calls Tryz.prog 64 #[v] w fun e w' => e = .returned (.tuple #[.string (S (showR bs)), .int .i64 0]) ∧ Below w.heap.size w w' := by
 have H := Lib.hid (rcheck_as v bs 0 (by unfold rangeErr; rw [if_pos h]) w hv hlen hE.env hp)
 have HE := Lib.hid hE
 have HAll := Lib.hid (rangeOk_all h).2
 have hb20 := (rangeOk_all h).1
 have HI := Lib.hid (info_parts info_str)
 obtain ⟨a0, cap0, rfl⟩ := hlen
 clear h hE hp
 rcases hv.cases.2 with ⟨a, cap, hva, he⟩ | ⟨bx, ox, cap, hva, hn0, hbx, hc⟩
 ·have h0 : bs.length = 0 := by rw [he]; rfl
  rw [h0] at H ⊢
  have HF : Hid (S (showR bs) = ⟨#[42]⟩) := by show _ = _; rw [he]; rfl
  clear he h0 hv hva
  go_enter Tryz.func64, Tryz.ntmps64
  go_wp2_with fail
  refine H.out.mono ?_
  rintro e w1 ⟨rfl, hb1⟩
  go_wp2_with fail
  go_ret2
  exact ⟨by rw [HF.out]; rfl, hb1⟩
 have ha0 : a0 = some ⟨bx, ox, none⟩ := by injection hva
 have hcap : cap0 = cap := by injection hva
 subst ha0 hcap
 have HC := Lib.hid hc
 have q0 : ((bs.length : Int) == 0) = false := beq_eq_false_iff_ne.2 (by omega)
 have q0' : decide (bs.length = 0) = false := decide_eq_false (by omega)
 clear hc hv hva
 go_enter Tryz.func64, Tryz.ntmps64
 go_wp2_with fail
 refine H.out.mono ?_
 rintro e w1 ⟨rfl, hb1⟩
 go_wp2_with fail
 go_loopw [5, 7, 8, 9, 20] (fun v _ _ _ i wr => ShRel bs w1 v i wr) (fun _ _ _ _ i _ => bs.length - (intOf i).toNat)
 case atStart => exact ⟨0, Nat.zero_le _, rfl, World.ownsRow_nil _ _ _ _, Below.refl _ _⟩
 case round =>
  obtain ⟨k, hk, rfl, hown, hb⟩ := hrel
  have HO := Lib.hid hown
  clear hown
  have hW := below_then hb1 hb
  by_cases hlt : k < bs.length
  ·have i0 : (0 : Int) ≤ (k : Int) := by omega
   have i1 : (k : Int) < (bs.length : Int) := by omega
   obtain ⟨g0, g1, g2, g3, g4⟩ := HC.out k hlt
   have c0 := (hW.cell (p := ⟨bx, ox + k * 5, none⟩) hbx).trans g0
   have c1 := (hW.cell (p := ⟨bx, ox + k * 5 + 1, none⟩) hbx).trans g1
   have c2 := (hW.cell (p := ⟨bx, ox + k * 5 + 2, none⟩) hbx).trans g2
   have c3 := (hW.cell (p := ⟨bx, ox + k * 5 + 3, none⟩) hbx).trans g3
   have c4 := (hW.cell (p := ⟨bx, ox + k * 5 + 4, none⟩) hbx).trans g4
   have hok := HAll.out _ (List.getElem_mem hlt)
   obtain ⟨x, hxe⟩ : ∃ x, bs[k] = x := ⟨_, rfl⟩
   rw [hxe] at c0 c1 c2 c3 c4 hok
   have HT := Lib.hid (List.take_succ_eq_append_getElem hlt)
   have HX := Lib.hid hxe
   have HV : Hid (x.v.ok = true) := by
    unfold Bnd.ok at hok
    rw [Bool.and_eq_true] at hok
    exact hok.2
   have hsl := show_len hok
   obtain ⟨A, hA⟩ : ∃ A, S (signL x.op) = A := ⟨_, rfl⟩
   obtain ⟨T, hT⟩ : ∃ T, S x.v.show = T := ⟨_, rfl⟩
   have HA := Lib.hid hA
   have HTT := Lib.hid hT
   have HAT : Hid (A ++ T = S x.show) := by show _ = _; rw [← hA, ← hT, S_append]; rfl
   have hAz : A.size + T.size ≤ 60 := by
    rw [← hA, ← hT, S_size, S_size]
    unfold Bnd.show at hsl
    rw [List.length_append] at hsl
    exact hsl
   have r1 : ∀ W, (Op.stringOp .add A T).run Tryz.prog W = .ok (.string (A ++ T)) W := fun W => run_string_add_sum W _ _ (by omega)
   clear g0 g1 g2 g3 g4 hxe hok hsl hA hT hAz
   go_wp2_with fail
   refine (showQ_any x.v HV.out T HTT.out _ ((HE.out.below hW).alloc _)).mono ?_
   rintro e w3 ⟨rfl, hb3⟩
   have hx3 := box_of hb3
   have d0 := box_cells hx3 0
   simp at d0
   have hb4 := hb.trans ((below_first hx3).mono hb.size)
   have HO3 := Lib.hid (owns_below HO.out (below_first hx3))
   have hB3 := hb4.size
   obtain ⟨i0', hi, hz0, hz1, hz2⟩ := HI.out
   clear hb3 hx3
   go_wp2_with fail
   refine (sign_as x.op A HA.out _).mono ?_
   rintro e w4 ⟨rfl, rfl⟩
   go_wp2_with (at_builtin; go_must (refine wpList_append_own _ rfl _ _ 56 rfl w1.heap.size 9 i0' (.string ⟨#[]⟩) 1 16 Tryz.underlying56 hi hz0 hz1 hz2 rfl (by decide) _ _ _ rfl (HO3.out.alloc _) ⟨_, 0, none⟩ 1 1 [.string (A ++ T)] rfl rfl ?c1 ?c2 ?c3 ?c4 ?c5 ?_))
   case c1 => exact cell_one_new _ _ _
   case c2 => intro u hu; simp at hu; subst hu; rfl
   case c3 => unfold maxLen; omega
   case c4 => omega
   case c5 => simp; omega
   intro v' w5 hown2 hg2 _
   have hb6 := below_grown (hb4.alloc hB3 _) (HO3.out.alloc _) hg2 (by simp; omega)
   have HO2 := Lib.hid hown2
   clear hg2 hown2
   go_wp2
   go_roundw
   case rel =>
    refine ⟨k + 1, hlt, by go_num, ?_, hb6⟩
    have h := HO2.out
    rw [HT.out, List.map_append, HX.out]
    rw [HAT.out] at h
    try rw [← List.map_take] at h
    have e : strs ((bs.take k).map Bnd.show) ++ [.string (S x.show)] = strs ((bs.take k).map Bnd.show ++ [x].map Bnd.show) := by simp [strs]
    rw [e] at h
    exact h
   case measure => simp [intOf]; omega
  ·have q3 : decide (k < bs.length) = false := by simp; omega
   have HK := Lib.hid (show k = bs.length by omega)
   have HO4 : Hid (wr.ownsRow w1.heap.size 9 1 u5 bs.length (strs (bs.map Bnd.show))) := by
    have h := HO.out
    rw [HK.out, List.take_of_length_le (Nat.le_refl _)] at h
    exact h
   have HJ : Hid ((joinAt 32 (bs.map Bnd.show)).length ≤ 100000) := by
    have := joinAt_len 32 60 (bs.map Bnd.show) (fun p hp => by
     rw [List.mem_map] at hp
     obtain ⟨b, hb, rfl⟩ := hp
     exact show_len (HAll.out b hb))
    rw [List.length_map] at this
    show _ ≤ _
    omega
   have HF : Hid (S (joinAt 32 (bs.map Bnd.show)) = S (showR bs)) := by
    show _ = _
    unfold showR showB
    cases hbs : bs with
    | nil => rw [hbs] at hn0; simp at hn0
    | cons b bs => rfl
   clear hlt
   go_wp2_with fail
   refine (joinB_any _ (bs.map Bnd.show) _ (Strs.of_owns HO4.out) (by simp; omega) (own_cap HO4.out hn0) HJ.out (by simp; omega)).mono ?_
   rintro e w3 ⟨rfl, hb3⟩
   go_wp2_with fail
   go_ret2
   exact ⟨by rw [← HF.out]; rfl, below_then hW hb3⟩
end Go.Proofs.YtbgimpeklblcjaaGreatDoor
