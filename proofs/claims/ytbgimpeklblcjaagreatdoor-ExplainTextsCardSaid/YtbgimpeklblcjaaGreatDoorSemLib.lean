/- The library's functions as the versions' texts call them: what a world must hold; each contract in our words. -/
import Derived.Test.YtbgimpeklblcjaaGreatDoorShelf
import Derived.Test.YtbgimpeklblcjaaGreatDoorSemCom
import Derived.Test.YtbgimpeklblcjaaGreatDoorCells
import Derived.Shelf.Strings.SlTrimAscii
import Derived.Below
import Derived.Lib.Atoi
namespace Go.Proofs.YtbgimpeklblcjaaGreatDoor
open Go.RowKit
/-- what the library's variables must read as -/
def Env (w : World) : Prop := (∃ m, w.cell? ⟨0, 0, none⟩ = some (.int .i64 m)) ∧ True
theorem Env.of_below {B : Nat} {w w' : World} (h : Env w) (hb : Below B w w') (hB : w.heap.size ≤ B) : Env w' := by
 obtain ⟨⟨m, hm⟩, _⟩ := h
 refine ⟨⟨m, ?_⟩, trivial⟩
 rw [hb.cell (p := ⟨0, 0, none⟩) (Nat.lt_of_lt_of_le (cell_lt hm) hB)]; exact hm
theorem Env.below {w w' : World} (h : Env w) (hb : Below w.heap.size w w') : Env w' := h.of_below hb (Nat.le_refl _)
theorem Env.alloc {w : World} (h : Env w) (o : Obj) : Env (w.alloc o) := h.below ((Below.refl _ _).alloc (Nat.le_refl _) o)
/-- what they must read as for a number that is written -/
def EnvI (w : World) : Prop := Env w ∧ 1 < w.heap.size ∧ Lib.TabIs Tryz.prog w "internal/strconv.uint64pow10" .u64 Lib.pow10Tab
theorem pow10_named : (Tryz.prog).globalNamed "internal/strconv.uint64pow10" = some 1 := by kernel_rfl
theorem EnvI.env {w : World} (h : EnvI w) : Env w := h.1
theorem EnvI.below {w w' : World} (h : EnvI w) (hb : Below w.heap.size w w') : EnvI w' := by
 obtain ⟨he, hg, ht⟩ := h
 refine ⟨he.below hb, Nat.lt_of_lt_of_le hg hb.size, ?_⟩
 unfold Lib.TabIs World.var? at ht ⊢
 rw [pow10_named] at ht ⊢
 simp only [Option.bind_some] at ht ⊢
 rw [hb.block _ hg]
 exact ht
theorem EnvI.alloc {w : World} (h : EnvI w) (o : Obj) : EnvI (w.alloc o) := h.below ((Below.refl _ _).alloc (Nat.le_refl _) o)
theorem split_any (s : ByteArray) (w : World) (hE : Env w) (hs : s.size < 4294967281) :
  Calls Tryz.prog 56 #[.string s, .string ⟨#[46]⟩] w fun e w' => ∃ v, e = .returned v ∧ Strs w' v (Sem4.dots s.data.toList) ∧ Below w.heap.size w w' := by
 obtain ⟨m, hm⟩ := hE.1
 refine (Tryz.strings_Split s ⟨#[46]⟩ m w hs hm (by decide)).mono fun e w' ⟨he, hw⟩ => ⟨_, he, ?_, ?_⟩
 ·rw [hw, split_dots, countB_dots]
  have e1 : ((List.map S (Sem4.dots s.data.toList)).map Value.string) = strs (Sem4.dots s.data.toList) := by
   unfold strs; rw [List.map_map]; rfl
  rw [e1]
  have hn : 0 < (Sem4.dots s.data.toList).length := List.length_pos_iff.2 (Sem4.dots_ne _)
  have hl : (Sem4.dots s.data.toList).length ≤ s.size + 1 := by
   rw [count_dots, Lib.size_eq]; have := List.count_le_length (a := (46 : UInt8)) (l := s.data.toList); omega
  refine ⟨by rw [strs_length]; omega, by unfold maxLen; omega, .inr ⟨w.heap.size, 0, _, rfl, hn, by simp, fun j hj => ?_⟩⟩
  simp only [World.cell?, Below_heap_new, Nat.zero_add, Option.isSome_none, Bool.false_eq_true, if_false]
  simp
 ·rw [hw]; exact (Below.refl _ _).alloc (Nat.le_refl _) _
theorem trim_any (s : ByteArray) (w : World) (hs : s.size ≤ 9223372036854775807) :
  Calls Tryz.prog 124 #[.string s, .string ⟨#[48, 49, 50, 51, 52, 53, 54, 55, 56, 57]⟩] w fun e w' => ∃ t : ByteArray, e = .returned (.string t) ∧ t.toList.isEmpty = s.data.toList.all Sem4.isDig ∧ Below w.heap.size w w' :=
 (Any.strings_Trim_laid Tryz.lays160 (by kernel_rfl) s ⟨#[48, 49, 50, 51, 52, 53, 54, 55, 56, 57]⟩ w hs (by decide) (ascii_of_all (by decide))).mono fun _ _ ⟨he, hb⟩ =>
  ⟨_, he, by rw [Lib.toList_data]; exact trim_digits _, hb⟩
theorem trimLeft_any (l : List UInt8) (w : World) :
  Calls Tryz.prog 126 #[.string (S l), .string ⟨#[48]⟩] w fun e w' => e = .returned (.string (S (Lib.trimLeftB l 48))) ∧ w = w' :=
 (Tryz.strings_TrimLeft_one (S l) 48 (by decide) w).mono fun _ _ ⟨h1, h2⟩ => ⟨h1, h2.symm⟩
theorem compare_any (a b : List UInt8) (w : World) :
  Calls Tryz.prog 98 #[.string (S a), .string (S b)] w fun e w' => e = .returned (.int .i64 (txt a b)) ∧ w = w' :=
 (Tryz.strings_Compare (S a) (S b) w).mono fun _ _ ⟨h1, h2⟩ => ⟨by rw [h1, S_data, S_data, compare_txt], h2.symm⟩
theorem cmpInt_any (a b : Int) (w : World) :
  Calls Tryz.prog 60 #[.int .i64 a, .int .i64 b] w fun e w' => e = .returned (.int .i64 (ord a b)) ∧ w = w' :=
 (Tryz.cmp_Compare_int a b w).mono fun _ _ ⟨h1, h2⟩ => ⟨by rw [h1]; rfl, h2.symm⟩
end Go.Proofs.YtbgimpeklblcjaaGreatDoor
