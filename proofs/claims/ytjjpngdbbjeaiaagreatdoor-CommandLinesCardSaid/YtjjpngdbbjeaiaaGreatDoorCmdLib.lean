/- The library's functions as the commands' texts call them. -/
import Derived.Test.YtjjpngdbbjeaiaaGreatDoorRanLib
import Derived.Test.YtjjpngdbbjeaiaaGreatDoorCmdMath3
namespace Go
theorem hasPrefix_one (c : UInt8) (l : List UInt8) : Lib.hasPrefix l [c] = decide (l.head? = some c) := by
  cases l with
  | nil => rfl
  | cons a l =>
    rw [Bool.eq_iff_iff]
    simp [Lib.hasPrefix, List.isPrefixOf]
    exact eq_comm
theorem trimPrefix_one (c : UInt8) (l : List UInt8) : Lib.trimPrefix l [c] = if l.head? = some c then l.drop 1 else l := by
  unfold Lib.trimPrefix
  rw [hasPrefix_one]
  by_cases h : l.head? = some c
  · rw [if_pos h, if_pos (by simpa using h)]; rfl
  · rw [if_neg h, if_neg (by simpa using h)]
theorem trimSuffix_one (c : UInt8) (l : List UInt8) : Lib.trimSuffix l [c] = if l.getLast? = some c then l.dropLast else l := by
  unfold Lib.trimSuffix
  have h1 : Lib.hasSuffix l [c] = decide (l.getLast? = some c) := by
    unfold Lib.hasSuffix
    rw [Bool.eq_iff_iff, List.isSuffixOf_iff_suffix, decide_eq_true_iff]
    constructor
    · rintro ⟨t, rfl⟩; simp
    · intro h
      cases l with
      | nil => cases h
      | cons a l =>
        have hne : a :: l ≠ [] := by simp
        refine ⟨(a :: l).dropLast, ?_⟩
        rw [List.getLast?_eq_some_getLast hne] at h
        injection h with h
        rw [← h]
        exact List.dropLast_concat_getLast hne
  rw [h1]
  by_cases h : l.getLast? = some c
  · rw [if_pos h, if_pos (by simpa using h), List.dropLast_eq_take]; rfl
  · rw [if_neg h, if_neg (by simpa using h)]
end Go
namespace Go.Proofs.YtjjpngdbbjeaiaaGreatDoor
open Go.RowKit
theorem cutC_any (c : UInt8) (s : ByteArray) (w : World) (hE : Env w) (hs : s.size < 4294967281) :
    Calls Tryz.prog 48 #[.string s, .string ⟨#[c]⟩] w fun e w' => e = .returned (.tuple #[.string (S (headAt c s.data.toList)), .string (S (tailAt c s.data.toList)), .bool (hasAt c s.data.toList)]) ∧ Below w.heap.size w w' := by
  obtain ⟨m, hm⟩ := hE.1
  refine (Tryz.strings_Cut s ⟨#[c]⟩ m w hs hm).mono fun e w' ⟨he, n, hw⟩ => ⟨?_, ?_⟩
  · rw [he, show (⟨#[c]⟩ : ByteArray).data.toList = [c] from rfl, cut_at]; rfl
  · rw [hw]; exact below_drewN (Below.refl _ _) n
theorem splitC_any (c : UInt8) (s : ByteArray) (w : World) (hE : Env w) (hs : s.size < 4294967281) :
    Calls Tryz.prog 49 #[.string s, .string ⟨#[c]⟩] w fun e w' => ∃ v, e = .returned v ∧ Strs w' v (sepAt c s.data.toList) ∧ Below w.heap.size w w' := by
  obtain ⟨m, hm⟩ := hE.1
  refine (Tryz.strings_Split s ⟨#[c]⟩ m w hs hm (Nat.le_refl 1)).mono fun e w' ⟨he, hw⟩ => ⟨_, he, ?_, ?_⟩
  · rw [hw, split_sep, countB_sep]
    have e1 : ((List.map S (sepAt c s.data.toList)).map Value.string) = strs (sepAt c s.data.toList) := by
      unfold strs; rw [List.map_map]; rfl
    rw [e1]
    have hn : 0 < (sepAt c s.data.toList).length := List.length_pos_iff.2 (sepAt_ne _ _)
    have hl : (sepAt c s.data.toList).length ≤ s.size + 1 := by
      rw [sepAt_count, Lib.size_eq]; have := List.count_le_length (a := c) (l := s.data.toList); omega
    refine ⟨by rw [strs_length]; omega, by unfold maxLen; omega, .inr ⟨w.heap.size, 0, _, rfl, hn, by simp, fun j hj => ?_⟩⟩
    simp only [World.cell?, Below_heap_new, Nat.zero_add, Option.isSome_none, Bool.false_eq_true, if_false]
    simp
  · rw [hw]; exact (Below.refl _ _).alloc (Nat.le_refl _) _
theorem cutPrefix_any (c : UInt8) (s : ByteArray) (w : World) :
    Calls Tryz.prog 47 #[.string s, .string ⟨#[c]⟩] w fun e w' => e = .returned (.tuple #[.string (S (if s.data.toList.head? = some c then s.data.toList.drop 1 else s.data.toList)), .bool (decide (s.data.toList.head? = some c))]) ∧ w = w' := by
  refine (Tryz.strings_CutPrefix s ⟨#[c]⟩ w).mono fun e w' ⟨he, hw⟩ => ⟨?_, hw.symm⟩
  rw [he, show (⟨#[c]⟩ : ByteArray).data.toList = [c] from rfl, trimPrefix_one, hasPrefix_one]; rfl
theorem trimSuffix_any (c : UInt8) (s : ByteArray) (w : World) (hs : s.size ≤ 9223372036854775807) :
    Calls Tryz.prog 56 #[.string s, .string ⟨#[c]⟩] w fun e w' => e = .returned (.string (S (if s.data.toList.getLast? = some c then s.data.toList.dropLast else s.data.toList))) ∧ w = w' := by
  refine (Tryz.strings_TrimSuffix s ⟨#[c]⟩ w hs).mono fun e w' ⟨he, hw⟩ => ⟨?_, hw.symm⟩
  rw [he, show (⟨#[c]⟩ : ByteArray).data.toList = [c] from rfl, trimSuffix_one]; rfl
end Go.Proofs.YtjjpngdbbjeaiaaGreatDoor
