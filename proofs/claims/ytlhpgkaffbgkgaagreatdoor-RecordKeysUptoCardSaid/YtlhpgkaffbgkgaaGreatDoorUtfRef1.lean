/- The reference's small functions of layer 3: point, Bytes, First. Walks. -/
import Derived.Test.YtlhpgkaffbgkgaaGreatDoorProg
import Derived.Test.YtlhpgkaffbgkgaaGreatDoorBase
import Derived.Test.YtlhpgkaffbgkgaaGreatDoorUtfMath
import Derived.Deep.QuietTactic
import Derived.BigQuiet
import Derived.Deep.RegionWith
import Derived.Deep.LoopGhost
import Derived.Lib.Hide
namespace Go.Proofs.YtlhpgkaffbgkgaaGreatDoor
open Go.RowKit
def pointB (p : Int) : Bool := decide (0 ≤ p ∧ Utf.good p.toNat)
theorem pointB_eq (p : Int) : pointB p = (decide (0 ≤ p) && (decide (p ≤ 1114111) && (decide (p < 55296) || decide (57343 < p)))) := by
  unfold pointB Utf.good; rw [Bool.eq_iff_iff]; simp; omega
set_option maxHeartbeats 400000 in
theorem point_any (p : Int) (w : World) :
    Calls Tryz.prog 87 #[.int .i64 p] w fun e w' => e = .returned (.bool (pointB p)) ∧ w = w' := by
  go_enter Tryz.func87, Tryz.ntmps87
  go_wp2
  all_goals
    go_ret
    refine ⟨ret_bool ?_, rfl⟩
    rw [pointB_eq, Bool.eq_iff_iff]
    simp
    try omega
set_option maxHeartbeats 400000 in
theorem bytes_1 (p : Int) (w : World) (h0 : 0 ≤ p) (h1 : p < 128) :
    Calls Tryz.prog 88 #[.int .i64 p] w fun e w' => e = .returned (.string (strOfNums [p])) ∧ Below w.heap.size w w' := by
  have hk := conv_lit (P := Tryz.prog) Tryz.underlying72 Tryz.underlying5 Tryz.underlying9 [p]
  simp only [List.map_cons, List.map_nil, List.length_cons, List.length_nil, Nat.zero_add] at hk
  have q1 : decide (p < 128) = true := by simp; omega
  go_enter Tryz.func88, Tryz.ntmps88
  go_wp2
  go_ret
  exact ⟨rfl, (Below.refl _ _).alloc (Nat.le_refl _) _⟩
set_option maxHeartbeats 400000 in
theorem bytes_2 (p : Int) (w : World) (h0 : 128 ≤ p) (h1 : p < 2048) :
    Calls Tryz.prog 88 #[.int .i64 p] w fun e w' => e = .returned (.string (strOfNums [192 + p / 64, 128 + p % 64])) ∧ Below w.heap.size w w' := by
  have hk := conv_lit (P := Tryz.prog) Tryz.underlying72 Tryz.underlying5 Tryz.underlying9 [192 + p / 64, 128 + p % 64]
  simp only [List.map_cons, List.map_nil, List.length_cons, List.length_nil, Nat.zero_add, Nat.reduceAdd] at hk
  have q1 : decide (p < 128) = false := by simp; omega
  have q2 : decide (p < 2048) = true := by simp; omega
  go_enter Tryz.func88, Tryz.ntmps88
  go_wp2
  go_ret
  exact ⟨rfl, (Below.refl _ _).alloc (Nat.le_refl _) _⟩
set_option maxHeartbeats 400000 in
theorem bytes_3 (p : Int) (w : World) (h0 : 2048 ≤ p) (h1 : p < 65536) :
    Calls Tryz.prog 88 #[.int .i64 p] w fun e w' => e = .returned (.string (strOfNums [224 + p / 4096, 128 + p / 64 % 64, 128 + p % 64])) ∧ Below w.heap.size w w' := by
  have hk := conv_lit (P := Tryz.prog) Tryz.underlying72 Tryz.underlying5 Tryz.underlying9 [224 + p / 4096, 128 + p / 64 % 64, 128 + p % 64]
  simp only [List.map_cons, List.map_nil, List.length_cons, List.length_nil, Nat.zero_add, Nat.reduceAdd] at hk
  have q1 : decide (p < 128) = false := by simp; omega
  have q2 : decide (p < 2048) = false := by simp; omega
  have q3 : decide (p < 65536) = true := by simp; omega
  go_enter Tryz.func88, Tryz.ntmps88
  go_wp2
  go_ret
  exact ⟨rfl, (Below.refl _ _).alloc (Nat.le_refl _) _⟩
set_option maxHeartbeats 400000 in
theorem bytes_4 (p : Int) (w : World) (h0 : 65536 ≤ p) (h1 : p < 1114112) :
    Calls Tryz.prog 88 #[.int .i64 p] w fun e w' => e = .returned (.string (strOfNums [240 + p / 262144, 128 + p / 4096 % 64, 128 + p / 64 % 64, 128 + p % 64])) ∧ Below w.heap.size w w' := by
  have hk := conv_lit (P := Tryz.prog) Tryz.underlying72 Tryz.underlying5 Tryz.underlying9 [240 + p / 262144, 128 + p / 4096 % 64, 128 + p / 64 % 64, 128 + p % 64]
  simp only [List.map_cons, List.map_nil, List.length_cons, List.length_nil, Nat.zero_add, Nat.reduceAdd] at hk
  have q1 : decide (p < 128) = false := by simp; omega
  have q2 : decide (p < 2048) = false := by simp; omega
  have q3 : decide (p < 65536) = false := by simp; omega
  go_enter Tryz.func88, Tryz.ntmps88
  go_wp2
  go_ret
  exact ⟨rfl, (Below.refl _ _).alloc (Nat.le_refl _) _⟩
def encB (p : Int) : ByteArray := S (Utf.enc p.toNat)
theorem bytes_any (p : Int) (w : World) (h : pointB p = true) :
    Calls Tryz.prog 88 #[.int .i64 p] w fun e w' => e = .returned (.string (encB p)) ∧ Below w.heap.size w w' := by
  have hp : 0 ≤ p ∧ Utf.good p.toNat := by simpa [pointB] using h
  obtain ⟨h0, hg⟩ := hp
  obtain ⟨n, rfl⟩ := Int.eq_ofNat_of_zero_le h0
  unfold Utf.good at hg
  rw [Int.toNat_natCast] at hg
  have key : ∀ xs : List Int, (xs.map fun n => UInt8.ofNat n.toNat) = Utf.enc n → strOfNums xs = encB n := by
    intro xs hx; rw [strOfNums_S, hx]; simp [encB]
  by_cases c1 : n < 128
  · refine (bytes_1 _ w (by omega) (by omega)).mono ?_
    rintro e w' ⟨rfl, hb⟩
    refine ⟨ret_str (key _ ?_), hb⟩
    simp [Utf.enc, c1, Utf.u8]
  by_cases c2 : n < 2048
  · refine (bytes_2 _ w (by omega) (by omega)).mono ?_
    rintro e w' ⟨rfl, hb⟩
    refine ⟨ret_str (key _ ?_), hb⟩
    simp only [Utf.enc, if_neg c1, if_pos c2, Utf.u8, List.map_cons, List.map_nil]
    congr 2
  by_cases c3 : n < 65536
  · refine (bytes_3 _ w (by omega) (by omega)).mono ?_
    rintro e w' ⟨rfl, hb⟩
    refine ⟨ret_str (key _ ?_), hb⟩
    simp only [Utf.enc, if_neg c1, if_neg c2, if_pos c3, Utf.u8, List.map_cons, List.map_nil]
    congr 2
  · refine (bytes_4 _ w (by omega) (by omega)).mono ?_
    rintro e w' ⟨rfl, hb⟩
    refine ⟨ret_str (key _ ?_), hb⟩
    simp only [Utf.enc, if_neg c1, if_neg c2, if_neg c3, Utf.u8, List.map_cons, List.map_nil]
    congr 2
end Go.Proofs.YtlhpgkaffbgkgaaGreatDoor
