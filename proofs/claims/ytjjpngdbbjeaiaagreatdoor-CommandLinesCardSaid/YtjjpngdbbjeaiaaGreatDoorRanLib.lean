/- The library's functions as the ranges' texts call them. -/
import Derived.Test.YtjjpngdbbjeaiaaGreatDoorSemLib
import Derived.Test.YtjjpngdbbjeaiaaGreatDoorRanMath2
namespace Go.Proofs.YtjjpngdbbjeaiaaGreatDoor
open Go.RowKit
theorem index_sign (x : UInt8) (r : Bool) (h : isSign x = r) (w : World) :
    Calls Tryz.prog 125 #[.string ⟨#[60, 62, 61]⟩, .int .u8 (x.toNat : Int)] w fun e w' => ∃ n : Int, e = .returned (.int .i64 n) ∧ decide (0 ≤ n) = r ∧ w' = w := by
  refine (Tryz.strings_IndexByte ⟨#[60, 62, 61]⟩ (x.toNat : Int) w).mono fun e w' ⟨h1, h2⟩ => ⟨_, h1, ?_, h2⟩
  rw [← h, ← idx_sign, show (⟨#[60, 62, 61]⟩ : ByteArray).data.toList = [60, 62, 61] from rfl, show ((x.toNat : Int).toNat.toUInt8) = x by simp]
theorem splitB_any (s : ByteArray) (w : World) (hE : Env w) (hs : s.size < 4294967281) :
    Calls Tryz.prog 49 #[.string s, .string ⟨#[32]⟩] w fun e w' => ∃ v, e = .returned v ∧ Strs w' v (sepAt 32 s.data.toList) ∧ Below w.heap.size w w' := by
  obtain ⟨m, hm⟩ := hE.1
  refine (Tryz.strings_Split s ⟨#[32]⟩ m w hs hm (by decide)).mono fun e w' ⟨he, hw⟩ => ⟨_, he, ?_, ?_⟩
  · rw [hw, split_sep, countB_sep]
    have e1 : ((List.map S (sepAt 32 s.data.toList)).map Value.string) = strs (sepAt 32 s.data.toList) := by
      unfold strs; rw [List.map_map]; rfl
    rw [e1]
    have hn : 0 < (sepAt 32 s.data.toList).length := List.length_pos_iff.2 (sepAt_ne _ _)
    have hl : (sepAt 32 s.data.toList).length ≤ s.size + 1 := by
      rw [sepAt_count, Lib.size_eq]; have := List.count_le_length (a := (32 : UInt8)) (l := s.data.toList); omega
    refine ⟨by rw [strs_length]; omega, by unfold maxLen; omega, .inr ⟨w.heap.size, 0, _, rfl, hn, by simp, fun j hj => ?_⟩⟩
    simp only [World.cell?, Below_heap_new, Nat.zero_add, Option.isSome_none, Bool.false_eq_true, if_false]
    simp
  · rw [hw]; exact (Below.refl _ _).alloc (Nat.le_refl _) _
theorem join_tail (c : UInt8) (p : List UInt8) : ∀ (qs : List (List UInt8)), joinAt c (p :: qs) = p ++ Lib.joinTail [c] qs := by
  intro qs
  induction qs generalizing p with
  | nil => simp [joinAt, Lib.joinTail]
  | cons q qs ih => rw [joinAt, ih]; simp [Lib.joinTail]
theorem join_at (ls : List (List UInt8)) : Lib.join ls [32] = joinAt 32 ls := by
  cases ls with
  | nil => rfl
  | cons p qs => rw [Lib.join_cons, join_tail]
theorem joinB_any (v : Value) (ls : List (List UInt8)) (w : World) (hv : Strs w v ls) (hn : 0 < ls.length) (hcap : ∀ a n c, v = .slice a n c → n ≤ c) (hl : (joinAt 32 ls).length ≤ 100000) (hN : ls.length ≤ 1000) :
    Calls Tryz.prog 55 #[v, .string ⟨#[32]⟩] w fun e w' => e = .returned (.string (S (joinAt 32 ls))) ∧ Below w.heap.size w w' := by
  obtain ⟨bx, ox, cap, rfl, hbx, hc⟩ := hv.full hn
  have hj : ∀ ls : List (List UInt8), Lib.join ((ls.map S).map (·.data.toList)) (⟨#[32]⟩ : ByteArray).data.toList = joinAt 32 ls := by
    intro ls
    rw [List.map_map, show ((fun x : ByteArray => x.data.toList) ∘ S) = id from rfl, List.map_id]
    exact join_at ls
  have hx : (ls.map S).length = ls.length := by simp
  have h := Tryz.strings_Join bx ox cap (ls.map S) ⟨#[32]⟩ w ?_ hbx ?_ ?_ ?_
  · rw [hx, hj] at h
    exact h
  · intro j x hjx
    rw [List.getElem?_map] at hjx
    cases hq : ls[j]? with
    | none => rw [hq] at hjx; cases hjx
    | some l =>
      rw [hq] at hjx
      obtain ⟨h1, h2⟩ := List.getElem?_eq_some_iff.1 hq
      have := hc j h1
      rw [h2] at this
      injection hjx with hjx
      subst hjx; exact this
  · rw [hx]; omega
  · rw [hx]; exact hcap _ _ _ rfl
  · rw [hj]; omega
end Go.Proofs.YtjjpngdbbjeaiaaGreatDoor
