/- The library's functions as the versions' texts call them: what a world must hold; each contract in our words. -/
import Derived.Test.YtllkiedikjgkbaaGreatDoorShelf
import Derived.Test.YtllkiedikjgkbaaGreatDoorSemCom
import Derived.Test.YtllkiedikjgkbaaGreatDoorCells
import Derived.Shelf.Strings.SlTrimAscii
import Derived.Below
import Derived.Lib.Atoi
namespace Go.Proofs.YtllkiedikjgkbaaGreatDoor
open Go.RowKit
/-- what the library's variables must read as -/
def Env (w : World) : Prop := (∃ m, w.cell? ⟨0, 0, none⟩ = some (.int .i64 m)) ∧ True
theorem Env.of_below {B : Nat} {w w' : World} (h : Env w) (hb : Below B w w') (hB : w.heap.size ≤ B) : Env w' := by
  obtain ⟨⟨m, hm⟩, _⟩ := h
  refine ⟨⟨m, ?_⟩, trivial⟩
  rw [hb.cell (p := ⟨0, 0, none⟩) (Nat.lt_of_lt_of_le (cell_lt hm) hB)]; exact hm
theorem Env.below {w w' : World} (h : Env w) (hb : Below w.heap.size w w') : Env w' := h.of_below hb (Nat.le_refl _)
theorem Env.alloc {w : World} (h : Env w) (o : Obj) : Env (w.alloc o) := h.below ((Below.refl _ _).alloc (Nat.le_refl _) o)
/-- what they must read as for a number that is written -/
def EnvI (w : World) : Prop := Env w ∧ 3 < w.heap.size ∧ Lib.TabIs Tryz.prog w "internal/strconv.uint64pow10" .u64 Lib.pow10Tab
theorem pow10_named : (Tryz.prog).globalNamed "internal/strconv.uint64pow10" = some 3 := by kernel_rfl
theorem EnvI.env {w : World} (h : EnvI w) : Env w := h.1
theorem EnvI.below {w w' : World} (h : EnvI w) (hb : Below w.heap.size w w') : EnvI w' := by
  obtain ⟨he, hg, ht⟩ := h
  refine ⟨he.below hb, Nat.lt_of_lt_of_le hg hb.size, ?_⟩
  unfold Lib.TabIs World.var? at ht ⊢
  rw [pow10_named] at ht ⊢
  simp only [Option.bind_some] at ht ⊢
  rw [hb.block _ hg]
  exact ht
theorem EnvI.alloc {w : World} (h : EnvI w) (o : Obj) : EnvI (w.alloc o) := h.below ((Below.refl _ _).alloc (Nat.le_refl _) o)
theorem below_growN {B : Nat} {a w : World} (h : Below B a w) (k : Nat) (os : Array Obj) (hB : B ≤ w.heap.size) : Below B a (Sort.grow (w.drewN k) os) := by
  have h1 := below_drewN h k
  refine ⟨h1.os, h1.tape, h1.output, ?_, fun i hi => ?_⟩
  · show a.heap.size ≤ ((w.drewN k).heap ++ os).size
    have := h1.size
    rw [Array.size_append]; omega
  · have h2 := h1.block i hi
    show ((w.drewN k).heap ++ os)[i]? = _
    have h3 : i < (w.drewN k).heap.size := Nat.lt_of_lt_of_le hi hB
    rw [Array.getElem?_append_left h3]
    exact h2
theorem below_bytesWorld (w : World) (e : TypeId) (s : ByteArray) : Below w.heap.size w (Lib.bytesWorld w e s) :=
  ⟨rfl, rfl, rfl, by rw [Lib.bytesWorld_size]; omega, fun i hi => Lib.bytesWorld_at_old w e s i hi⟩
theorem split_any (s : ByteArray) (w : World) (hE : Env w) (hs : s.size < 4294967281) :
    Calls Tryz.prog 57 #[.string s, .string ⟨#[46]⟩] w fun e w' => ∃ v, e = .returned v ∧ Strs w' v (Sem4.dots s.data.toList) ∧ Below w.heap.size w w' := by
  obtain ⟨m, hm⟩ := hE.1
  refine (Tryz.strings_Split s ⟨#[46]⟩ m w hs hm (by decide)).mono fun e w' ⟨he, hw⟩ => ⟨_, he, ?_, ?_⟩
  · rw [hw, split_dots, countB_dots]
    have e1 : ((List.map S (Sem4.dots s.data.toList)).map Value.string) = strs (Sem4.dots s.data.toList) := by
      unfold strs; rw [List.map_map]; rfl
    rw [e1]
    have hn : 0 < (Sem4.dots s.data.toList).length := List.length_pos_iff.2 (Sem4.dots_ne _)
    have hl : (Sem4.dots s.data.toList).length ≤ s.size + 1 := by
      rw [count_dots, Lib.size_eq]; have := List.count_le_length (a := (46 : UInt8)) (l := s.data.toList); omega
    refine ⟨by rw [strs_length]; omega, by unfold maxLen; omega, .inr ⟨w.heap.size, 0, _, rfl, hn, by simp, fun j hj => ?_⟩⟩
    simp only [World.cell?, Below_heap_new, Nat.zero_add, Option.isSome_none, Bool.false_eq_true, if_false]
    simp
  · rw [hw]; exact (Below.refl _ _).alloc (Nat.le_refl _) _
/-- the ten digits -/
def tens : ByteArray := ⟨#[48, 49, 50, 51, 52, 53, 54, 55, 56, 57]⟩
theorem trim_any (s : ByteArray) (w : World) (hs : s.size ≤ 9223372036854775807) :
    Calls Tryz.prog 147 #[.string s, .string ⟨#[48, 49, 50, 51, 52, 53, 54, 55, 56, 57]⟩] w fun e w' => ∃ t : ByteArray, e = .returned (.string t) ∧ t.toList.isEmpty = s.data.toList.all Sem4.isDig ∧ Below w.heap.size w w' :=
  (Any.strings_Trim_laid Tryz.lays160 (by kernel_rfl) s ⟨#[48, 49, 50, 51, 52, 53, 54, 55, 56, 57]⟩ w hs (by decide) (ascii_of_all (by decide))).mono fun _ _ ⟨he, hb⟩ =>
    ⟨_, he, by rw [Lib.toList_data]; exact trim_digits _, hb⟩
theorem trimLeft_any (l : List UInt8) (w : World) :
    Calls Tryz.prog 171 #[.string (S l), .string ⟨#[48]⟩] w fun e w' => e = .returned (.string (S (Lib.trimLeftB l 48))) ∧ w = w' :=
  (Tryz.strings_TrimLeft_one (S l) 48 (by decide) w).mono fun _ _ ⟨h1, h2⟩ => ⟨h1, h2.symm⟩
theorem compare_any (a b : List UInt8) (w : World) :
    Calls Tryz.prog 143 #[.string (S a), .string (S b)] w fun e w' => e = .returned (.int .i64 (txt a b)) ∧ w = w' :=
  (Tryz.strings_Compare (S a) (S b) w).mono fun _ _ ⟨h1, h2⟩ => ⟨by rw [h1, S_data, S_data, compare_txt], h2.symm⟩
theorem cmpInt_any (a b : Int) (w : World) :
    Calls Tryz.prog 100 #[.int .i64 a, .int .i64 b] w fun e w' => e = .returned (.int .i64 (ord a b)) ∧ w = w' :=
  (Tryz.cmp_Compare_int a b w).mono fun _ _ ⟨h1, h2⟩ => ⟨by rw [h1]; rfl, h2.symm⟩
theorem itoa_any (n : Nat) (w : World) (hE : EnvI w) (hn : n ≤ 999999) :
    Calls Tryz.prog 132 #[.int .i64 (n : Int)] w fun e w' => e = .returned (.string (S (dig10 n))) ∧ Below w.heap.size w w' :=
  (Tryz.strconv_Itoa n (by omega) (by omega) w hE.2.2).mono fun _ _ ⟨h1, k, os, h2⟩ => ⟨by rw [h1, itoa_dig10]; rfl, by rw [h2]; exact below_growN (Below.refl _ _) k os (Nat.le_refl _)⟩
theorem decFrom_dig (l : List UInt8) : ∀ (m k : Nat), l.all Sem4.isDig = true → m < 10 ^ k → k + l.length ≤ 6 → Lib.decFrom m l = some (l.foldl dstep m) := by
  induction l with
  | nil => intro m k _ _ _; rfl
  | cons c l ih =>
    intro m k h hm hk
    rw [List.all_cons, Bool.and_eq_true] at h
    have hd : 48 ≤ c.toNat ∧ c.toNat ≤ 57 := by simpa [Sem4.isDig] using h.1
    rw [List.length_cons] at hk
    have h5 : 10 ^ k ≤ 10 ^ 5 := Nat.pow_le_pow_right (by decide) (by omega)
    have hs : dstep m c = m * 10 + (c.toNat - 48) := by unfold dstep; rw [if_pos (by omega)]; omega
    have hv : Lib.digitVal c = some (c.toNat - 48) := by unfold Lib.digitVal; rw [if_pos hd]
    rw [Lib.decFrom, hv, List.foldl_cons, hs]
    exact ih _ (k + 1) h.2 (by rw [Nat.pow_succ]; omega) (by omega)
theorem atoi_dig {l : List UInt8} (h : l.all Sem4.isDig = true) (hn : l ≠ []) (hl : l.length ≤ 6) : Lib.atoi l = some (dfold l : Int) := by
  cases l with
  | nil => exact absurd rfl hn
  | cons b r =>
    have hb : 48 ≤ b.toNat ∧ b.toNat ≤ 57 := by
      rw [List.all_cons, Bool.and_eq_true] at h
      simpa [Sem4.isDig] using h.1
    have h1 : (b == 45) = false := by
      rw [beq_eq_false_iff_ne]; rintro rfl; exact absurd hb.1 (by decide)
    have h2 : (b == 43) = false := by
      rw [beq_eq_false_iff_ne]; rintro rfl; exact absurd hb.1 (by decide)
    rw [Lib.atoi, h1, h2]
    have := decFrom_dig (b :: r) 0 0 h (by decide) (by omega)
    unfold Lib.decNat
    rw [show (b :: r).isEmpty = false from rfl]
    simp only [Bool.false_eq_true, if_false]
    rw [this]; rfl
end Go.Proofs.YtllkiedikjgkbaaGreatDoor
