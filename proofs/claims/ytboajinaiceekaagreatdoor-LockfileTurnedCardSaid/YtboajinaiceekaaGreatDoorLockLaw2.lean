/- Locks: one byte another one: a text's bytes, one of them turned. -/
import Derived.Test.YtboajinaiceekaaGreatDoorLockAwake
import Derived.Test.YtboajinaiceekaaGreatDoorLockMath7
import Derived.Lib.ConvBytes
namespace Go
open Go.RowKit
/-- the bytes of a text that was turned into a row, one of them written anew -/
theorem turned_cell (w : World) (e : TypeId) (s : ByteArray) (a : Nat) (ha : a < s.size) (y : UInt8) (j : Nat) (hj : j < s.size) :
    ((Lib.bytesWorld w e s).setCell ⟨w.heap.size, a, none⟩ (.int .u8 (y.toNat : Int))).cell? ⟨w.heap.size, j, none⟩ = some (.int .u8 (((s.data.toList.set a y).getD j 0).toNat : Int)) := by
  have hl : a < s.data.toList.length := by rw [← Lib.size_eq]; exact ha
  by_cases h : j = a
  · subst h
    rw [World.cell?_setCell_same _ _ _ (by rw [Lib.bytesWorld_cell w e s j hj])]
    simp [List.getD, List.getElem?_set_self hl]
  · rw [World.cell?_setCell_other _ _ _ _ (by intro he; injection he with _ h2; exact h h2.symm), Lib.bytesWorld_cell w e s j hj]
    simp [List.getD, List.getElem?_set_ne (fun e => h e.symm)]
/-- that row as a text again, from some place on -/
theorem turned_conv {P : Program} {src dst e : TypeId} (hs : P.underlying src = some (.slice e)) (he : P.underlying e = some (.int .u8)) (hd : P.underlying dst = some .string)
    (w : World) (T : TypeId) (s : ByteArray) (a o : Nat) (ha : a < s.size) (ho : o ≤ s.size) (y : UInt8) (cap : Nat) :
    (convert src dst (.slice (some ⟨w.heap.size, o, none⟩) (s.size - o) cap)).run P ((Lib.bytesWorld w T s).setCell ⟨w.heap.size, a, none⟩ (.int .u8 (y.toNat : Int))) =
      .ok (.string (S ((s.data.toList.set a y).drop o))) ((Lib.bytesWorld w T s).setCell ⟨w.heap.size, a, none⟩ (.int .u8 (y.toNat : Int))) := by
  have hlen : (((s.data.toList.set a y).drop o).map fun c => (c.toNat : Int)).length = s.size - o := by
    rw [List.length_map, List.length_drop, List.length_set, ← Lib.size_eq]
  have := run_convert_bytes_arg (P := P) ((Lib.bytesWorld w T s).setCell ⟨w.heap.size, a, none⟩ (.int .u8 (y.toNat : Int))) src e hs he w.heap.size o (s.size - o) cap (((s.data.toList.set a y).drop o).map fun c => (c.toNat : Int)) hlen (fun i hi => by
    rw [turned_cell w T s a ha y (o + i) (by omega)]
    have hi2 : o + i < (s.data.toList.set a y).length := by rw [List.length_set, ← Lib.size_eq]; omega
    have e1 : (s.data.toList.set a y).getD (o + i) 0 = (s.data.toList.set a y)[o + i] := by rw [List.getD_eq_getElem?_getD, List.getElem?_eq_getElem hi2]; rfl
    have e2 : (((s.data.toList.set a y).drop o).map fun c => (c.toNat : Int)).getD i 0 = (((s.data.toList.set a y)[o + i]).toNat : Int) := by rw [List.getD_eq_getElem?_getD, List.getElem?_map, List.getElem?_drop, List.getElem?_eq_getElem hi2]; rfl
    rw [e1, e2]) dst hd
  rw [this, strOfNums_S, List.map_map]
  congr 3
  conv => rhs; rw [← List.map_id ((s.data.toList.set a y).drop o)]
  apply List.map_congr_left
  intro x _
  simp
/-- the same at whatever world holds that row -/
theorem turned_conv_at {P : Program} {src dst e : TypeId} (hs : P.underlying src = some (.slice e)) (he : P.underlying e = some (.int .u8)) (hd : P.underlying dst = some .string)
    (W : World) (b : Nat) (l : List UInt8) (o n : Nat) (hn : n = l.length - o) (hc : ∀ j, j < l.length → W.cell? ⟨b, j, none⟩ = some (.int .u8 ((l.getD j 0).toNat : Int))) (cap : Nat) :
    (convert src dst (.slice (some ⟨b, o, none⟩) n cap)).run P W = .ok (.string (S (l.drop o))) W := by
  subst hn
  have hlen : ((l.drop o).map fun c => (c.toNat : Int)).length = l.length - o := by rw [List.length_map, List.length_drop]
  have := run_convert_bytes_arg (P := P) W src e hs he b o (l.length - o) cap ((l.drop o).map fun c => (c.toNat : Int)) hlen (fun i hi => by
    rw [hc (o + i) (by omega)]
    have hi2 : o + i < l.length := by omega
    have e1 : l.getD (o + i) 0 = l[o + i] := by rw [List.getD_eq_getElem?_getD, List.getElem?_eq_getElem hi2]; rfl
    have e2 : ((l.drop o).map fun c => (c.toNat : Int)).getD i 0 = ((l[o + i]).toNat : Int) := by rw [List.getD_eq_getElem?_getD, List.getElem?_map, List.getElem?_drop, List.getElem?_eq_getElem hi2]; rfl
    rw [e1, e2]) dst hd
  rw [this, strOfNums_S, List.map_map]
  congr 3
  conv => rhs; rw [← List.map_id (l.drop o)]
  apply List.map_congr_left
  intro x _
  simp
end Go
