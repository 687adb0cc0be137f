/- Sums of bytes: the program's Sum of one part: a walk. -/
import Derived.Test.YtboajinaiceekaaGreatDoorCrc1
import Derived.Test.YtboajinaiceekaaGreatDoorCells
namespace Go.Proofs.YtboajinaiceekaaGreatDoor
open Go.RowKit
def SmRel (v : Nat) (r i : Value) : Prop := (i = .int .i64 0 ∧ r = .int .u32 0) ∨ (i = .int .i64 1 ∧ r = .int .u32 (v : Int))
set_option maxRecDepth 100000 in
set_option maxHeartbeats 1000000 in
theorem sum1_as (s : ByteArray) (hs : s.size ≤ 100000) (w : World) (b : Nat) (hc : w.cell? ⟨b, 0, none⟩ = some (.string s)) :
    Calls Tryz.prog 23 #[.slice (some ⟨b, 0, none⟩) 1 1] w fun e w' => e = .returned (.int .u32 (Crc.sum s.data.toList : Int)) ∧ w' = w := by
  have HM := Lib.hid (fun w => more_as s hs w)
  have hz := cell_lt hc
  obtain ⟨v, hv⟩ : ∃ v, Crc.sum s.data.toList = v := ⟨_, rfl⟩
  rw [hv] at HM ⊢
  clear hv hs
  go_enter Tryz.func23, Tryz.ntmps23
  go_wp2_with fail
  go_loop [3, 8] (fun r i => SmRel v r i) (fun _ i => 1 - (intOf i).toNat)
  case atStart => exact .inl ⟨rfl, rfl⟩
  case round =>
    rcases hrel with ⟨rfl, rfl⟩ | ⟨rfl, rfl⟩
    · go_wp2_with fail
      refine (HM.out _).mono ?_
      rintro e w1 ⟨rfl, rfl⟩
      go_wp2_with fail
      go_round
      case rel => exact .inr ⟨rfl, rfl⟩
      case measure => simp [intOf]
    · go_wp2_with fail
      go_ret
      exact ⟨rfl, rfl⟩
/-- of a row that was just laid -/
theorem sum1_new (s : ByteArray) (hs : s.size ≤ 100000) (w : World) (T : TypeId) :
    Calls Tryz.prog 23 #[.slice (some ⟨w.heap.size, 0, none⟩) 1 1] (w.alloc (.cells #[.string s] T)) fun e w' => e = .returned (.int .u32 (Crc.sum s.data.toList : Int)) ∧ w' = w.alloc (.cells #[.string s] T) :=
  sum1_as s hs _ _ (box_cells (Below.refl (w.heap.size + 1) _) 0)
end Go.Proofs.YtboajinaiceekaaGreatDoor
