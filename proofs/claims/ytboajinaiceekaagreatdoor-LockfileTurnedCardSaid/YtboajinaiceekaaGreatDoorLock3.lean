/- Locks: the program's digits: a walk. -/
import Derived.Test.YtboajinaiceekaaGreatDoorLock2
import Derived.Test.YtboajinaiceekaaGreatDoorCrc1
import Derived.Laws.MakeOwn
namespace Go
open Go.RowKit
theorem hexK_cons : ∀ (k n : Nat), hexK (k + 1) n = hexC (n / 16 ^ k % 16) :: hexK k n
  | 0, n => by simp [hexK]
  | k + 1, n => by
    rw [hexK, hexK_cons k (n / 16), List.cons_append]
    rw [show hexK k (n / 16) ++ [hexC (n % 16)] = hexK (k + 1) n from rfl, Nat.div_div_eq_div_mul, ← Nat.pow_succ']
theorem hex_all : ∀ d : Fin 16, (⟨#[48, 49, 50, 51, 52, 53, 54, 55, 56, 57, 97, 98, 99, 100, 101, 102]⟩ : ByteArray)[d.val]'(show d.val < 16 from d.isLt) = hexC d.val := by decide
theorem hex_at (d : Nat) (h : d < 16) : (⟨#[48, 49, 50, 51, 52, 53, 54, 55, 56, 57, 97, 98, 99, 100, 101, 102]⟩ : ByteArray)[d]'(show d < 16 from h) = hexC d := hex_all ⟨d, h⟩
/-- eight bytes, of which the last k are written -/
def dgRow (n k : Nat) : List UInt8 := List.replicate (8 - k) 0 ++ hexK k n
theorem dgRow_step {n k : Nat} (h : k < 8) : (dgRow n k).set (7 - k) (hexC (n / 16 ^ k % 16)) = dgRow n (k + 1) := by
  unfold dgRow
  rw [hexK_cons, show 8 - k = (7 - k) + 1 by omega, show 8 - (k + 1) = 7 - k by omega, List.replicate_succ', List.append_assoc, List.set_append_right _ _ (by simp)]
  simp
theorem dgRow_len (n k : Nat) (h : k ≤ 8) : (dgRow n k).length = 8 := by unfold dgRow; rw [List.length_append, List.length_replicate, hexK_length]; omega
end Go
namespace Go.Proofs.YtboajinaiceekaaGreatDoor
open Go.RowKit
theorem u8_info : (Tryz.prog.info? 5).map (fun i => (i.zero, i.size, i.bytes)) = some (some (.int .u8 0), 1, 1) := by kernel_rfl
theorem made8 : madeCells (Value.int IntKind.u8 0).cells (Int.toNat 8 * 1) = #[.int .u8 0, .int .u8 0, .int .u8 0, .int .u8 0, .int .u8 0, .int .u8 0, .int .u8 0, .int .u8 0] := by kernel_rfl
theorem make8 (w : World) : (Instr.makeSlice 39 (.int .i64 8) (.int .i64 8)).run Tryz.prog w = .ok (.slice (some ⟨w.heap.size, 0, none⟩) 8 8) (w.alloc (.cells #[.int .u8 0, .int .u8 0, .int .u8 0, .int .u8 0, .int .u8 0, .int .u8 0, .int .u8 0, .int .u8 0] 5)) := by
  obtain ⟨i0, hi, hz0, hz1, hz2⟩ := info_parts u8_info
  have h := run_make (P := Tryz.prog) w 39 5 i0 (.int .u8 0) Tryz.underlying39 hi hz0 .i64 .i64 8 8 (by decide) (by decide) (by rw [hz2]; decide) (by decide)
  rw [h, hz1, made8]
  rfl
theorem own_eight (w : World) (e : TypeId) : (w.alloc (.cells #[.int .u8 0, .int .u8 0, .int .u8 0, .int .u8 0, .int .u8 0, .int .u8 0, .int .u8 0, .int .u8 0] e)).ownsRow w.heap.size e 1 (.slice (some ⟨w.heap.size, 0, none⟩) 8 8) 8 (bytesV (dgRow 0 0)) :=
  ⟨rfl, .inr ⟨w.heap.size, 8, _, rfl, Nat.le_refl _, Below_heap_new w _, by decide, by decide, rfl, rfl⟩⟩
def DgRel (n : Nat) (w : World) (x i : Value) (wr : World) : Prop :=
  ∃ k m : Nat, k ≤ 8 ∧ i = .int .i64 (k : Int) ∧ x = .int .u32 (m : Int) ∧ n / 16 ^ k = m ∧ wr.ownsRow w.heap.size 5 1 (.slice (some ⟨w.heap.size, 0, none⟩) 8 8) 8 (bytesV (dgRow n k)) ∧ Below w.heap.size w wr
set_option maxRecDepth 100000 in
set_option maxHeartbeats 1000000 in
theorem ldigits_as (n : Nat) (hn : n < 4294967296) (w : World) :
    Calls Tryz.prog 22 #[.int .u32 (n : Int)] w fun e w' => e = .returned (.string (S (hexK 8 n))) ∧ Below w.heap.size w w' := by
  have hmk := make8
  go_enter Tryz.func22, Tryz.ntmps22
  go_wp2_with fail
  go_loopw [0, 8] (fun x i wr => DgRel n w x i wr) (fun _ i _ => 8 - (intOf i).toNat)
  case atStart => exact ⟨0, n, by omega, rfl, rfl, by simp, own_eight w _, (Below.refl _ _).alloc (Nat.le_refl _) _⟩
  case round =>
    obtain ⟨k, m, hk, rfl, rfl, hm, hown, hb⟩ := hrel
    have HO := Lib.hid hown
    have HM := Lib.hid hm
    have hml : m < 4294967296 := by rw [← hm]; exact Nat.lt_of_le_of_lt (Nat.div_le_self _ _) hn
    clear hown hm
    by_cases hlt : k < 8
    · obtain ⟨d, hd⟩ : ∃ d, m % 16 = d := ⟨_, rfl⟩
      have hd16 : d < 16 := by omega
      have hand : bits .and .u32 (m : Int) 15 = (d : Int) := by
        have := u32_and_nat m 15 hml (by decide)
        rw [show (15 : Nat) = 2 ^ 4 - 1 by decide, Nat.and_two_pow_sub_one_eq_mod, show (2 : Nat) ^ 4 = 16 by decide, hd] at this
        exact this
      have HD := Lib.hid hd
      clear hd
      have i7 : IntKind.i64.wrap (7 - (k : Int)) = ((7 - k : Nat) : Int) := by rw [IntKind.wrap_i64]; omega
      obtain ⟨x, hx⟩ : ∃ x, (bytesV (dgRow n k))[7 - k]? = some x := by
        have hl : 7 - k < (bytesV (dgRow n k)).length := by rw [bytesV_length, dgRow_len n k hk]; omega
        exact ⟨_, List.getElem?_eq_getElem hl⟩
      have c0 : wr.cell? ⟨w.heap.size, 7 - k, none⟩ = some x := by
        rw [← hx]; exact World.ownsRow.cellAt HO.out (7 - k) (by omega)
      have f0 : wr.frozen? ⟨w.heap.size, 7 - k, none⟩ = false := World.ownsRow.frozenAt HO.out (7 - k)
      have hz := cell_lt c0
      have j0 : (0 : Int) ≤ ((7 - k : Nat) : Int) := by omega
      have j1 : ((7 - k : Nat) : Int) < 8 := by omega
      clear hx
      go_wp2_with fail
      go_roundw
      case rel =>
        refine ⟨k + 1, m / 16, by omega, by go_num, by go_num, by rw [Nat.pow_succ, ← Nat.div_div_eq_div_mul, HM.out], ?_, hb.setCell (p := ⟨w.heap.size, 7 - k, none⟩) (Nat.le_refl _) _⟩
        have h1 := (World.ownsRow.stored HO.out (7 - k) (Value.int .u8 ((hexC d).toNat : Int))).1
        rw [show (bytesV (dgRow n k)).set (7 - k) (Value.int .u8 ((hexC d).toNat : Int)) = bytesV ((dgRow n k).set (7 - k) (hexC d)) by unfold bytesV; rw [List.map_set]] at h1
        rw [← dgRow_step hlt, HM.out, HD.out]
        rw [← hex_at d hd16] at h1 ⊢
        exact h1
      case measure => simp [intOf]; omega
    · have q5 : decide ((k : Int) < 8) = false := decide_eq_false (by omega)
      have q6 : decide (k < 8) = false := decide_eq_false hlt
      have hk8 : k = 8 := by omega
      have hc : (convert 39 9 (.slice (some ⟨w.heap.size, 0, none⟩) 8 8)).run Tryz.prog wr = .ok (.string (S (hexK 8 n))) wr := by
        have h := HO.out
        rw [hk8, show dgRow n 8 = hexK 8 n from rfl] at h
        exact conv_own (P := Tryz.prog) Tryz.underlying39 Tryz.underlying5 Tryz.underlying9 h
      clear hlt hk8
      go_wp2_with fail
      go_ret
      exact ⟨rfl, hb⟩
end Go.Proofs.YtboajinaiceekaaGreatDoor
