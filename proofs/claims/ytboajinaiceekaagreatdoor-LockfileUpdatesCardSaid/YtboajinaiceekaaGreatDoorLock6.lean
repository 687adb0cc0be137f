/- Locks: what the program's Parse calls of the library. -/
import Derived.Test.YtboajinaiceekaaGreatDoorLockP
import Derived.Test.YtboajinaiceekaaGreatDoorLock5
import Derived.Test.YtboajinaiceekaaGreatDoorLockMath4
namespace Go.Proofs.YtboajinaiceekaaGreatDoor
open Go.RowKit
theorem trimN_any (t : List UInt8) (A : ByteArray) (hA : S (t ++ [10]) = A) (hs : t.length ≤ 1000000) (w : World) :
    Calls Tryz.prog 33 #[.string A, .string ⟨#[10]⟩] w fun e w' => e = .returned (.string (S t)) ∧ w' = w := by
  subst hA
  refine (Tryz.strings_TrimSuffix (S (t ++ [10])) ⟨#[10]⟩ w (by rw [S_size, List.length_append]; simp; omega)).mono fun e w' ⟨he, hw⟩ => ⟨?_, hw⟩
  rw [he, show (S (t ++ [10])).data.toList = t ++ [10] from rfl, show (⟨#[10]⟩ : ByteArray).data.toList = [10] from rfl, trimSuf]
  rfl
theorem cutS_any (t : List UInt8) (w : World) (hE : Env w) (hs : t.length ≤ 1000000) :
    Calls Tryz.prog 32 #[.string (S t), .string ⟨#[32]⟩] w fun e w' => e = .returned (.tuple #[.string (S (headAt 32 t)), .string (S (tailAt 32 t)), .bool (hasAt 32 t)]) ∧ Below w.heap.size w w' := by
  obtain ⟨m, hm⟩ := hE.1
  refine (Tryz.strings_Cut (S t) ⟨#[32]⟩ m w (by rw [S_size]; omega) hm).mono fun e w' ⟨he, n, hw⟩ => ⟨?_, ?_⟩
  · rw [he, show (S t).data.toList = t from rfl, show (⟨#[32]⟩ : ByteArray).data.toList = [32] from rfl, cut_at]; rfl
  · rw [hw]; exact below_drewN (Below.refl _ _) n
theorem cutL_any (s : ByteArray) (w : World) :
    Calls Tryz.prog 28 #[.string s, .string ⟨#[108, 111, 99, 107, 32, 49, 10]⟩] w fun e w' => e = .returned (.tuple #[.string (S (Lib.trimPrefix s.data.toList headL)), .bool (Lib.hasPrefix s.data.toList headL)]) ∧ w' = w :=
  (Tryz.strings_CutPrefix s ⟨#[108, 111, 99, 107, 32, 49, 10]⟩ w).mono fun _ _ ⟨he, hw⟩ => ⟨by rw [he]; rfl, hw⟩
theorem lastN_any (s : ByteArray) (hs : s.size ≤ 1000000) (w : World) :
    Calls Tryz.prog 29 #[.string s, .string ⟨#[10, 115, 117, 109, 32]⟩] w fun e w' => e = .returned (.int .i64 (Lib.lastIndex s.data.toList sumPre)) ∧ w' = w :=
  (Tryz.strings_LastIndex s ⟨#[10, 115, 117, 109, 32]⟩ (by omega) w).mono fun _ _ ⟨he, hw⟩ => ⟨by rw [he]; rfl, hw⟩
theorem countN (s : ByteArray) : Lib.countB s ⟨#[10]⟩ = s.data.toList.count 10 := by
  show Lib.count _ _ = _
  exact Lib.count_one 10 _
/-- the lines of a text, each with its end, and what is left -/
def piecesN (ts : List (List UInt8)) : List (List UInt8) := ts.map (fun t => t ++ [10]) ++ [[]]
set_option maxRecDepth 100000 in
theorem splitN_any (D : ByteArray) (ts : List (List UInt8)) (hD : D.data.toList = flatN ts) (hts : ∀ t ∈ ts, ∀ c ∈ t, c ≠ 10) (w : World) (hE : Env w) (hs : D.size ≤ 1000000) :
    Calls Tryz.prog 31 #[.string D, .string ⟨#[10]⟩] w fun e w' => e = .returned (.slice (some ⟨w.heap.size, 0, none⟩) (ts.length + 1) (ts.length + 1)) ∧
      Strs w' (.slice (some ⟨w.heap.size, 0, none⟩) (ts.length + 1) (ts.length + 1)) (piecesN ts) ∧ Below w.heap.size w w' := by
  obtain ⟨m, hm⟩ := hE.1
  have hcn : Lib.countB D ⟨#[10]⟩ = ts.length := by rw [countN, hD, count_lines ts hts]
  have hle : ts.length ≤ D.size := by
    rw [← hcn, countN, Lib.size_eq]; exact List.count_le_length
  have hsp : Lib.splitB ⟨#[10]⟩ 1 ts.length D = (piecesN ts).map S := by
    have h := Lib.splitB_data ⟨#[10]⟩ 1 ts.length D
    rw [show (⟨#[10]⟩ : ByteArray).data.toList = [10] from rfl, hD, splitA_lines ts hts] at h
    have := congrArg (List.map S) h
    rw [List.map_map] at this
    unfold piecesN
    rw [← this]
    conv => lhs; rw [← List.map_id (Lib.splitB _ _ _ _)]
    rfl
  have hpl : (piecesN ts).length = ts.length + 1 := by simp [piecesN]
  have HG := Lib.hid (Tryz.strings_genSplit D ⟨#[10]⟩ 1 (-1) (ts.length + 1) m w (by omega) hm (by decide) (by decide) (by decide) (by decide) (by
    rw [if_pos (by decide), hcn]; omega))
  rw [Nat.add_sub_cancel, hsp, List.length_map, hpl] at HG
  have hcells : Lib.cellsOf ((piecesN ts).map S) (ts.length + 1) = (strs (piecesN ts)).toArray := by
    unfold Lib.cellsOf strs
    rw [List.length_map, hpl, Nat.sub_self]
    simp
  rw [hcells] at HG
  clear hsp hcells hcn hm hE
  go_enter Tryz.func31, Tryz.ntmps31
  go_wp2_with fail
  refine HG.out.mono ?_
  rintro e w1 ⟨rfl, rfl⟩
  have hS : Strs (w.alloc (.cells (strs (piecesN ts)).toArray 9)) (.slice (some ⟨w.heap.size, 0, none⟩) (ts.length + 1) (ts.length + 1)) (piecesN ts) := by
    refine ⟨by rw [strs_length]; omega, by rw [hpl]; unfold maxLen; omega, .inr ⟨w.heap.size, 0, _, by rw [hpl], by omega, by simp, fun j hj => ?_⟩⟩
    simp only [World.cell?, Below_heap_new, Nat.zero_add, Option.isSome_none, Bool.false_eq_true, if_false]
    simp
  go_wp2_with fail
  go_ret
  exact ⟨rfl, hS, (Below.refl _ _).alloc (Nat.le_refl _) _⟩
end Go.Proofs.YtboajinaiceekaaGreatDoor
