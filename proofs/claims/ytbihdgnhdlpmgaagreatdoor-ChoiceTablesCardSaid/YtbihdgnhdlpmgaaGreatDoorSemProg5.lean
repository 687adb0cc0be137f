/- The program's versions: cmp.Or, number, parts: walks. -/
import Derived.Test.YtbihdgnhdlpmgaaGreatDoorSemProg4
namespace Go.Proofs.YtbihdgnhdlpmgaaGreatDoor
open Go.RowKit
theorem or2_zero_right (a : Int) : or2 a 0 = a := by
  unfold or2; split <;> omega
def orL (xs : List Int) : Int := xs.foldr or2 0
theorem orL_step (xs : List Int) (k : Nat) (h : k < xs.length) : orL (xs.drop k) = or2 xs[k] (orL (xs.drop (k + 1))) := by
  rw [List.drop_eq_getElem_cons h]; rfl
theorem ints_new (w : World) (xs : List Int) (T : TypeId) (cap : Nat) (hn : 0 < xs.length) (hm : xs.length ≤ maxLen) : Ints (w.alloc (.cells (ints xs).toArray T)) (.slice (some ⟨w.heap.size, 0, none⟩) xs.length cap) xs := by
  refine ⟨by rw [ints_length]; omega, hm, .inr ⟨w.heap.size, 0, cap, rfl, hn, by simp, fun j hj => ?_⟩⟩
  simp only [World.cell?, Below_heap_new, Nat.zero_add, Option.isSome_none, Bool.false_eq_true, if_false]
  simp
def OrRel (xs : List Int) (i : Value) : Prop := ∃ k : Nat, k ≤ xs.length ∧ i = .int .i64 (k : Int) ∧ orL xs = orL (xs.drop k)
set_option maxRecDepth 100000 in
set_option maxHeartbeats 1000000 in
theorem or_any (v : Value) (xs : List Int) (w : World) (hv : Ints w v xs) (hn : 0 < xs.length) (hl : xs.length ≤ 1000) :
    Calls Tryz.prog 55 #[v] w fun e w' => e = .returned (.int .i64 (orL xs)) ∧ w = w' := by
  obtain ⟨_, ⟨_, _, _, rfl⟩ | ⟨bx, ox, cap, rfl, _, _, hc⟩⟩ := hv.cases
  · cases hn
  have HC := Lib.hid hc
  clear hc
  go_enter Tryz.func55, Tryz.ntmps55
  go_wp2_with fail
  go_loop [5, 8] (fun _ i => OrRel xs i) (fun _ i => xs.length - (intOf i).toNat)
  case atStart => exact ⟨0, Nat.zero_le _, rfl, rfl⟩
  case round =>
    obtain ⟨k, hk, rfl, ho⟩ := hrel
    have HO := Lib.hid ho
    clear ho
    by_cases hlt : k < xs.length
    · have cx := HC.out k hlt
      have i1 : (k : Int) < (xs.length : Int) := by omega
      have HS := Lib.hid (orL_step xs k hlt)
      obtain ⟨r, hr⟩ : ∃ r, xs[k] = r := ⟨_, rfl⟩
      rw [hr] at cx HS
      clear hr
      by_cases hz : r = 0
      · have q : (r != 0) = false := by simpa using hz
        have HZ := Lib.hid hz
        clear hz
        go_wp2_with fail
        go_round
        case rel => exact ⟨k + 1, by omega, by go_num, by rw [HO.out, HS.out, HZ.out]; rfl⟩
        case measure => simp [intOf]; omega
      · have q : (r != 0) = true := by simpa using hz
        have HF := Lib.hid (show orL xs = r by rw [HO.out, HS.out, or2_ne hz])
        clear hz
        go_wp2_with fail
        go_ret
        exact ⟨by rw [HF.out]; rfl, rfl⟩
    · have q : decide (k < xs.length) = false := by simp; omega
      obtain rfl : k = xs.length := by omega
      have HF := Lib.hid (show orL xs = 0 by rw [HO.out, List.drop_length]; rfl)
      go_wp2_with fail
      go_ret
      exact ⟨by rw [HF.out]; rfl, rfl⟩
theorem or_new (w : World) (xs : List Int) (T : TypeId) (cap : Nat) (n : Nat) (cs : Array Value) (hcs : cs = (ints xs).toArray) (hn' : n = xs.length) (hn : 0 < xs.length) (hl : xs.length ≤ 1000) :
    Calls Tryz.prog 55 #[.slice (some ⟨w.heap.size, 0, none⟩) n cap] (w.alloc (.cells cs T)) fun e w' => e = .returned (.int .i64 (orL xs)) ∧ w.alloc (.cells cs T) = w' := by
  subst hcs hn'
  exact or_any _ xs _ (ints_new w xs T cap hn (by unfold maxLen; omega)) hn hl
set_option maxRecDepth 100000 in
set_option maxHeartbeats 1000000 in
theorem number_any (a b : List UInt8) (w : World) (ha : a.length ≤ 100000) (hb : b.length ≤ 100000) :
    Calls Tryz.prog 79 #[.string (S a), .string (S b)] w fun e w' => e = .returned (.int .i64 (numCmp a b)) ∧ Below w.heap.size w w' := by
  obtain ⟨x, hx⟩ : ∃ x, Lib.trimLeftB a 48 = x := ⟨_, rfl⟩
  obtain ⟨y, hy⟩ : ∃ y, Lib.trimLeftB b 48 = y := ⟨_, rfl⟩
  have lx : x.length ≤ 100000 := by rw [← hx]; exact Nat.le_trans (List.dropWhile_sublist _).length_le ha
  have ly : y.length ≤ 100000 := by rw [← hy]; exact Nat.le_trans (List.dropWhile_sublist _).length_le hb
  have HE : Hid (numCmp a b = orL [ord (x.length : Int) (y.length : Int), txt x y]) := by
    show _ = _
    unfold numCmp orL
    rw [hx, hy]
    simp only [List.foldr_cons, List.foldr_nil, or2_zero_right]
  have TA := fun w => trimLeft_any a w
  have TB := fun w => trimLeft_any b w
  rw [hx] at TA
  rw [hy] at TB
  have HA := Lib.hid TA
  have HB := Lib.hid TB
  have CI := Lib.hid (fun w => cmpInt_any (x.length : Int) (y.length : Int) w)
  have CS := Lib.hid (fun w => compare_any x y w)
  obtain ⟨o, ho⟩ : ∃ o, ord (x.length : Int) (y.length : Int) = o := ⟨_, rfl⟩
  obtain ⟨t, ht⟩ : ∃ t, txt x y = t := ⟨_, rfl⟩
  rw [ho, ht] at HE
  rw [ho] at CI
  rw [ht] at CS
  clear TA TB hx hy ho ht
  have sx : (S x).size = x.length := S_size x
  have sy : (S y).size = y.length := S_size y
  rw [← sx, ← sy] at CI
  clear sx sy
  go_enter Tryz.func79, Tryz.ntmps79
  go_wp2_with fail
  refine (HA.out _).mono ?_
  rintro e w1 ⟨rfl, rfl⟩
  go_wp2_with fail
  refine (HB.out _).mono ?_
  rintro e w1 ⟨rfl, rfl⟩
  go_wp2_with fail
  refine (CI.out _).mono ?_
  rintro e w1 ⟨rfl, rfl⟩
  go_wp2_with fail
  refine (CS.out _).mono ?_
  rintro e w1 ⟨rfl, rfl⟩
  go_wp2_with fail
  refine (or_new _ [o, t] _ _ _ _ rfl rfl (by simp) (by simp)).mono ?_
  rintro e w1 ⟨rfl, rfl⟩
  go_wp2_with fail
  go_ret
  exact ⟨by rw [HE.out]; rfl, (Below.refl _ _).alloc (Nat.le_refl _) _⟩
set_option maxRecDepth 100000 in
set_option maxHeartbeats 1000000 in
theorem partsP_any (a b : List UInt8) (w : World) (ha : a.length ≤ 100000) (hb : b.length ≤ 100000) :
    Calls Tryz.prog 57 #[.string (S a), .string (S b)] w fun e w' => e = .returned (.int .i64 (partsCmp a b)) ∧ Below w.heap.size w w' := by
  have za : (S a).size ≤ 9223372036854775807 := by rw [S_size]; omega
  have zb : (S b).size ≤ 9223372036854775807 := by rw [S_size]; omega
  have hpc := partsCmp_num a b
  cases hA : Sem4.digits a <;> cases hB : Sem4.digits b
  all_goals
    rw [hA, hB] at hpc
    simp only [Bool.false_eq_true, if_false, if_true] at hpc
    have HA := Lib.hid hA
    have HB := Lib.hid hB
    have HE := Lib.hid hpc
    clear hA hB hpc
    go_enter Tryz.func57, Tryz.ntmps57
    go_wp2_with fail
    refine (digits_any (S a) _ HA.out _ za).mono ?_
    rintro e w1 ⟨rfl, hb1⟩
    go_wp2_with fail
    refine (digits_any (S b) _ HB.out _ zb).mono ?_
    rintro e w2 ⟨rfl, hb2⟩
    have hb12 := below_then hb1 hb2
    go_wp2_with fail
    first
      | (refine (compare_any a b _).mono ?_
         rintro e w3 ⟨rfl, rfl⟩
         go_wp2_with fail
         go_ret
         exact ⟨by rw [HE.out]; rfl, hb12⟩)
      | (refine (number_any a b _ ha hb).mono ?_
         rintro e w3 ⟨rfl, hb3⟩
         go_wp2_with fail
         go_ret
         exact ⟨by rw [HE.out]; rfl, below_then hb12 hb3⟩)
      | (go_ret
         exact ⟨by rw [HE.out]; rfl, hb12⟩)
end Go.Proofs.YtbihdgnhdlpmgaaGreatDoor
