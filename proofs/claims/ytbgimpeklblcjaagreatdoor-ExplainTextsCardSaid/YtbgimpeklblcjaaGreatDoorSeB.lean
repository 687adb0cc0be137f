/- The program's versions: Show: a walk. The program's versions: cmp.Or, number, parts: walks. The program's versions: Cmp: a walk. -/
import Derived.Test.YtbgimpeklblcjaaGreatDoorSeA
import Derived.Deep.RegionHeld3
import Derived.Deep.DeepCutAuto
namespace Go.Proofs.YtbgimpeklblcjaaGreatDoor
open Go.RowKit
end Go.Proofs.YtbgimpeklblcjaaGreatDoor

namespace Go.Proofs.YtbgimpeklblcjaaGreatDoor
open Go.RowKit
theorem or2_zero_right (a : Int) : or2 a 0 = a := by
 unfold or2; split <;> omega
def orL (xs : List Int) : Int := xs.foldr or2 0
theorem orL_step (xs : List Int) (k : Nat) (h : k < xs.length) : orL (xs.drop k) = or2 xs[k] (orL (xs.drop (k + 1))) := by
 rw [List.drop_eq_getElem_cons h]; rfl
theorem ints_new (w : World) (xs : List Int) (T : TypeId) (cap : Nat) (hn : 0 < xs.length) (hm : xs.length ≤ maxLen) : Ints (w.alloc (.cells (ints xs).toArray T)) (.slice (some ⟨w.heap.size, 0, none⟩) xs.length cap) xs := by
 refine ⟨by rw [ints_length]; omega, hm, .inr ⟨w.heap.size, 0, cap, rfl, hn, by simp, fun j hj => ?_⟩⟩
 simp only [World.cell?, Below_heap_new, Nat.zero_add, Option.isSome_none, Bool.false_eq_true, if_false]
 simp
def OrRel (xs : List Int) (i : Value) : Prop := ∃ k : Nat, k ≤ xs.length ∧ i = .int .i64 (k : Int) ∧ orL xs = orL (xs.drop k)
set_option maxRecDepth 100000 in
set_option maxHeartbeats 1000000 in
theorem or_any (v : Value) (xs : List Int) (w : World) (hv : Ints w v xs) (hn : 0 < xs.length) (hl : xs.length ≤ 1000) :
  Calls Tryz.prog 59 #[v] w fun e w' => e = .returned (.int .i64 (orL xs)) ∧ w = w' := by
 obtain ⟨_, ⟨_, _, _, rfl⟩ | ⟨bx, ox, cap, rfl, _, _, hc⟩⟩ := hv.cases
 ·cases hn
 have HC := Lib.hid hc
 clear hc
 go_enter Tryz.func59, Tryz.ntmps59
 go_wp2_with fail
 go_loop [5, 8] (fun _ i => OrRel xs i) (fun _ i => xs.length - (intOf i).toNat)
 case atStart => exact ⟨0, Nat.zero_le _, rfl, rfl⟩
 case round =>
  obtain ⟨k, hk, rfl, ho⟩ := hrel
  have HO := Lib.hid ho
  clear ho
  by_cases hlt : k < xs.length
  ·have cx := HC.out k hlt
   have i1 : (k : Int) < (xs.length : Int) := by omega
   have HS := Lib.hid (orL_step xs k hlt)
   obtain ⟨r, hr⟩ : ∃ r, xs[k] = r := ⟨_, rfl⟩
   rw [hr] at cx HS
   clear hr
   by_cases hz : r = 0
   ·have q : (r != 0) = false := by simpa using hz
    have HZ := Lib.hid hz
    clear hz
    go_wp2_with fail
    go_round
    case rel => exact ⟨k + 1, by omega, by go_num, by rw [HO.out, HS.out, HZ.out]; rfl⟩
    case measure => simp [intOf]; omega
   ·have q : (r != 0) = true := by simpa using hz
    have HF := Lib.hid (show orL xs = r by rw [HO.out, HS.out, or2_ne hz])
    clear hz
    go_wp2_with fail
    go_ret
    exact ⟨by rw [HF.out]; rfl, rfl⟩
  ·have q : decide (k < xs.length) = false := by simp; omega
   obtain rfl : k = xs.length := by omega
   have HF := Lib.hid (show orL xs = 0 by rw [HO.out, List.drop_length]; rfl)
   go_wp2_with fail
   go_ret
   exact ⟨by rw [HF.out]; rfl, rfl⟩
theorem or_new (w : World) (xs : List Int) (T : TypeId) (cap : Nat) (n : Nat) (cs : Array Value) (hcs : cs = (ints xs).toArray) (hn' : n = xs.length) (hn : 0 < xs.length) (hl : xs.length ≤ 1000) :
  Calls Tryz.prog 59 #[.slice (some ⟨w.heap.size, 0, none⟩) n cap] (w.alloc (.cells cs T)) fun e w' => e = .returned (.int .i64 (orL xs)) ∧ w.alloc (.cells cs T) = w' := by
 subst hcs hn'
 exact or_any _ xs _ (ints_new w xs T cap hn (by unfold maxLen; omega)) hn hl
set_option maxRecDepth 100000 in
set_option maxHeartbeats 1000000 in
theorem number_any (a b : List UInt8) (w : World) (ha : a.length ≤ 100000) (hb : b.length ≤ 100000) :
  Calls Tryz.prog 97 #[.string (S a), .string (S b)] w fun e w' => e = .returned (.int .i64 (numCmp a b)) ∧ Below w.heap.size w w' := by
 obtain ⟨x, hx⟩ : ∃ x, Lib.trimLeftB a 48 = x := ⟨_, rfl⟩
 obtain ⟨y, hy⟩ : ∃ y, Lib.trimLeftB b 48 = y := ⟨_, rfl⟩
 have lx : x.length ≤ 100000 := by rw [← hx]; exact Nat.le_trans (List.dropWhile_sublist _).length_le ha
 have ly : y.length ≤ 100000 := by rw [← hy]; exact Nat.le_trans (List.dropWhile_sublist _).length_le hb
 have HE : Hid (numCmp a b = orL [ord (x.length : Int) (y.length : Int), txt x y]) := by
  show _ = _
  unfold numCmp orL
  rw [hx, hy]
  simp only [List.foldr_cons, List.foldr_nil, or2_zero_right]
 have TA := fun w => trimLeft_any a w
 have TB := fun w => trimLeft_any b w
 rw [hx] at TA
 rw [hy] at TB
 have HA := Lib.hid TA
 have HB := Lib.hid TB
 have CI := Lib.hid (fun w => cmpInt_any (x.length : Int) (y.length : Int) w)
 have CS := Lib.hid (fun w => compare_any x y w)
 obtain ⟨o, ho⟩ : ∃ o, ord (x.length : Int) (y.length : Int) = o := ⟨_, rfl⟩
 obtain ⟨t, ht⟩ : ∃ t, txt x y = t := ⟨_, rfl⟩
 rw [ho, ht] at HE
 rw [ho] at CI
 rw [ht] at CS
 clear TA TB hx hy ho ht
 have sx : (S x).size = x.length := S_size x
 have sy : (S y).size = y.length := S_size y
 rw [← sx, ← sy] at CI
 clear sx sy
 go_enter Tryz.func97, Tryz.ntmps97
 go_wp2_with fail
 refine (HA.out _).mono ?_
 rintro e w1 ⟨rfl, rfl⟩
 go_wp2_with fail
 refine (HB.out _).mono ?_
 rintro e w1 ⟨rfl, rfl⟩
 go_wp2_with fail
 refine (CI.out _).mono ?_
 rintro e w1 ⟨rfl, rfl⟩
 go_wp2_with fail
 refine (CS.out _).mono ?_
 rintro e w1 ⟨rfl, rfl⟩
 go_wp2_with fail
 refine (or_new _ [o, t] _ _ _ _ rfl rfl (by simp) (by simp)).mono ?_
 rintro e w1 ⟨rfl, rfl⟩
 go_wp2_with fail
 go_ret
 exact ⟨by rw [HE.out]; rfl, (Below.refl _ _).alloc (Nat.le_refl _) _⟩
set_option maxRecDepth 100000 in
set_option maxHeartbeats 1000000 in
theorem partsP_any (a b : List UInt8) (w : World) (ha : a.length ≤ 100000) (hb : b.length ≤ 100000) :
  Calls Tryz.prog 61 #[.string (S a), .string (S b)] w fun e w' => e = .returned (.int .i64 (partsCmp a b)) ∧ Below w.heap.size w w' := by
 have za : (S a).size ≤ 9223372036854775807 := by rw [S_size]; omega
 have zb : (S b).size ≤ 9223372036854775807 := by rw [S_size]; omega
 have hpc := partsCmp_num a b
 cases hA : Sem4.digits a <;> cases hB : Sem4.digits b
 all_goals
  rw [hA, hB] at hpc
  simp only [Bool.false_eq_true, if_false, if_true] at hpc
  have HA := Lib.hid hA
  have HB := Lib.hid hB
  have HE := Lib.hid hpc
  clear hA hB hpc
  go_enter Tryz.func61, Tryz.ntmps61
  go_wp2_with fail
  refine (digits_any (S a) _ HA.out _ za).mono ?_
  rintro e w1 ⟨rfl, hb1⟩
  go_wp2_with fail
  refine (digits_any (S b) _ HB.out _ zb).mono ?_
  rintro e w2 ⟨rfl, hb2⟩
  have hb12 := below_then hb1 hb2
  go_wp2_with fail
  first
   | (refine (compare_any a b _).mono ?_; rintro e w3 ⟨rfl, rfl⟩; go_wp2_with fail; go_ret; exact ⟨by rw [HE.out]; rfl, hb12⟩)
   | (refine (number_any a b _ ha hb).mono ?_; rintro e w3 ⟨rfl, hb3⟩; go_wp2_with fail; go_ret; exact ⟨by rw [HE.out]; rfl, below_then hb12 hb3⟩)
   | (go_ret; exact ⟨by rw [HE.out]; rfl, hb12⟩)
end Go.Proofs.YtbgimpeklblcjaaGreatDoor

namespace Go.Proofs.YtbgimpeklblcjaaGreatDoor
open Go.RowKit
theorem cmpInt_still (a b r : Int) (h : ord a b = r) (w : World) :
  Calls Tryz.prog 60 #[.int .i64 a, .int .i64 b] w fun e w' => e = .returned (.int .i64 r) ∧ w' = w :=
 (cmpInt_any a b w).mono fun _ _ ⟨h1, h2⟩ => ⟨by rw [h1, h], h2.symm⟩
theorem ord_self_zero {a b : Int} (h : ord a b = 0) : a = b := by
 unfold ord at h
 split at h
 ·omega
 ·split at h <;> omega
theorem toList_inj {p q : ByteArray} (h : p.toList = q.toList) : p = q := by
 rw [Lib.toList_data, Lib.toList_data] at h
 exact ByteArray.ext (Array.toList_inj.1 h)
/-- two versions, one? -/
theorem ver_eq (a b c : Int) (p : ByteArray) (a' b' c' : Int) (p' : ByteArray) (r : Bool) (hr : r = decide (a = a' ∧ b = b' ∧ c = c' ∧ p = p')) (W : World) :
  (Op.equalIn 10000 41 (.agg #[.int .i64 a, .int .i64 b, .int .i64 c, .string p]) (.agg #[.int .i64 a', .int .i64 b', .int .i64 c', .string p'])).run Tryz.prog W = .ok r W := by
 subst hr
 go_simp
 by_cases h1 : a = a'
 ·by_cases h2 : b = b'
  ·by_cases h3 : c = c'
   ·by_cases h4 : p.toList = p'.toList
    ·have h5 := toList_inj h4
     subst h5
     simp [h1, h2, h3]
    ·have h5 : p ≠ p' := fun e => h4 (by rw [e])
     simp [h1, h2, h3, h4, h5]
   ·simp [h1, h2, h3]
  ·simp [h1, h2]
 ·simp [h1]
theorem bytesLess_self (l : List UInt8) : Op.bytesLess l l = false := by
 induction l with
 | nil => rfl
 | cons a l ih => rw [Op.bytesLess, ih]; simp
theorem txt_self (l : List UInt8) : txt l l = 0 := by unfold txt; rw [bytesLess_self]; simp
theorem partsCmp_self (l : List UInt8) : partsCmp l l = 0 := by
 unfold partsCmp
 split <;> simp [txt_self]
theorem lcmp_self : ∀ ls : List (List UInt8), lcmp ls ls = 0
 | [] => rfl
 | x :: xs => by rw [lcmp, partsCmp_self, or2_zero, lcmp_self xs]
theorem cmpV_self (a b c : Int) (p : List UInt8) : cmpV a b c p a b c p = 0 := by
 unfold cmpV cmp3 cmpPre
 rw [ord_eq, ord_eq, ord_eq, or2_zero, or2_zero, or2_zero, lcmp_self]
 cases p.isEmpty <;> rfl
theorem split_keep (s : ByteArray) (w0 w : World) (hE : Env w0) (hs : s.size ≤ 300) (B : Nat) (x y : Value)
  (h : w.cell? ⟨B, 3, none⟩ = some x ∧ w.cell? ⟨B + 1, 3, none⟩ = some y ∧ Below w0.heap.size w0 w) :
  Calls Tryz.prog 56 #[.string s, .string ⟨#[46]⟩] w fun e w' => ∃ v, e = .returned v ∧ Strs w' v (Sem4.dots s.data.toList) ∧ Below w.heap.size w w' ∧
   (w'.cell? ⟨B, 3, none⟩ = some x ∧ w'.cell? ⟨B + 1, 3, none⟩ = some y ∧ Below w0.heap.size w0 w') :=
 (split_any s w (hE.below h.2.2) (by omega)).mono fun _ _ ⟨v, h1, h2, h3⟩ => ⟨v, h1, h2, h3, (h3.cell (p := ⟨B, 3, none⟩) (cell_lt h.1)).trans h.1, (h3.cell (p := ⟨B + 1, 3, none⟩) (cell_lt h.2.1)).trans h.2.1, below_then h.2.2 h3⟩
theorem or_drew (w : World) (xs : List Int) (T : TypeId) (cap n B : Nat) (cs : Array Value) (hB : B = w.heap.size) (hcs : cs = (ints xs).toArray) (hn' : n = xs.length) (hn : 0 < xs.length) (hl : xs.length ≤ 1000) :
  Calls Tryz.prog 59 #[.slice (some ⟨B, 0, none⟩) n cap] (w.alloc (.cells cs T)).drew fun e w' => e = .returned (.int .i64 (orL xs)) ∧ (w.alloc (.cells cs T)).drew = w' := by
 subst hB hcs hn'
 exact or_any _ xs _ ((ints_new w xs T cap hn (by unfold maxLen; omega)).below ((Below.refl _ _).drew) (Nat.le_refl _)) hn hl
def LRelP (xs ys : List (List UInt8)) (w : World) (i : Value) (wr : World) : Prop := ∃ k : Nat, k ≤ xs.length ∧ k ≤ ys.length ∧ i = .int .i64 (k : Int) ∧ lcmp xs ys = lcmp (xs.drop k) (ys.drop k) ∧ Below w.heap.size w wr
set_option maxRecDepth 100000 in
set_option maxHeartbeats 2000000 in
theorem cmpP_any (a b c : Int) (p : ByteArray) (a' b' c' : Int) (p' : ByteArray) (w : World) (hE : Env w) (hp : p.size ≤ 300) (hp' : p'.size ≤ 300) :
  Calls Tryz.prog 30 #[.agg #[.int .i64 a, .int .i64 b, .int .i64 c, .string p], .agg #[.int .i64 a', .int .i64 b', .int .i64 c', .string p']] w fun e w' =>
   e = .returned (.int .i64 (cmpV a b c p.data.toList a' b' c' p'.data.toList)) ∧ Below w.heap.size w w' := by
 have hVE := fun W => ver_eq a b c p a' b' c' p' _ rfl W
 obtain ⟨r, hr⟩ : ∃ r, decide (a = a' ∧ b = b' ∧ c = c' ∧ p = p') = r := ⟨_, rfl⟩
 rw [hr] at hVE
 have HR := Lib.hid hr
 have HE0 := Lib.hid hE
 have hW := ((Below.refl w.heap.size w).alloc (Nat.le_refl _) (.cells #[.int .i64 a, .int .i64 b, .int .i64 c, .string p] 41)).alloc (by simp) (.cells #[.int .i64 a', .int .i64 b', .int .i64 c', .string p'] 41)
 clear hr hE
 cases r
 case true =>
  have HZ : Hid (cmpV a b c p.data.toList a' b' c' p'.data.toList = 0) := by
   show _ = _
   obtain ⟨rfl, rfl, rfl, rfl⟩ := of_decide_eq_true HR.out
   exact cmpV_self _ _ _ _
  go_enter Tryz.func30, Tryz.ntmps30
  go_wp2_with fail
  go_ret
  exact ⟨by rw [HZ.out]; rfl, hW⟩
 obtain ⟨o0, h0⟩ : ∃ o, ord a a' = o := ⟨_, rfl⟩
 obtain ⟨o1, h1⟩ : ∃ o, ord b b' = o := ⟨_, rfl⟩
 obtain ⟨o2, h2⟩ : ∃ o, ord c c' = o := ⟨_, rfl⟩
 obtain ⟨o, ho⟩ : ∃ o, orL [o0, o1, o2] = o := ⟨_, rfl⟩
 have HV : Hid (cmpV a b c p.data.toList a' b' c' p'.data.toList = or2 o (cmpPre p.data.toList p'.data.toList)) := by
  show _ = _
  rw [← ho]
  unfold cmpV cmp3 orL; rw [h0, h1, h2]
  simp only [List.foldr_cons, List.foldr_nil, or2_zero_right]
 have HPP : Hid (o = 0 → p ≠ p') := by
  rintro rfl rfl
  have hall : o0 = 0 ∧ o1 = 0 ∧ o2 = 0 := by
   unfold orL at ho
   simp only [List.foldr_cons, List.foldr_nil, or2_zero_right] at ho
   unfold or2 at ho
   split at ho
   ·split at ho
    ·exact ⟨by assumption, by assumption, ho⟩
    ·exact absurd ho (by assumption)
   ·exact absurd ho (by assumption)
  obtain ⟨rfl, rfl, rfl⟩ := hall
  have := of_decide_eq_false HR.out
  exact this ⟨ord_self_zero h0, ord_self_zero h1, ord_self_zero h2, rfl⟩
 have H0 := Lib.hid h0
 have H1 := Lib.hid h1
 have H2 := Lib.hid h2
 have HO := Lib.hid ho
 clear h0 h1 h2 ho
 have hW2 := hW.alloc (by simp; omega) (.cells #[.int .i64 o0, .int .i64 o1, .int .i64 o2] 3)
 go_enter Tryz.func30, Tryz.ntmps30
 go_wp2_with fail
 refine region_still_tail 15 (by kernel_rfl) (by kernel_rfl) ?_
 simp only [List.take_succ_cons, List.take_zero, List.drop_succ_cons, List.drop_zero]
 repeat still_step
 still_call (cmpInt_still _ _ _ H0.out _)
 repeat still_step
 still_call (cmpInt_still _ _ _ H1.out _)
 repeat still_step
 still_call (cmpInt_still _ _ _ H2.out _)
 repeat still_step
 refine wpStill_nil ?_
 clear hVE
 go_wp2_with fail
 refine (or_drew _ [o0, o1, o2] _ _ _ _ #[.int .i64 o0, .int .i64 o1, .int .i64 o2] (by simp) rfl rfl (by simp) (by simp)).mono ?_
 rintro e w1 ⟨rfl, rfl⟩
 rw [HO.out]
 by_cases hz : o = 0
 case neg =>
  have q : (o != 0) = true := by simpa using hz
  have HE := Lib.hid (show cmpV a b c p.data.toList a' b' c' p'.data.toList = o by rw [HV.out, or2_ne hz])
  clear hz
  go_wp2_with fail
  go_ret
  exact ⟨by rw [HE.out]; rfl, hW2.drew⟩
 subst hz
 have HPN := Lib.hid (HPP.out rfl)
 have hV := HV.out
 rw [or2_zero] at hV
 unfold cmpPre at hV
 rw [← Lib.toList_data, ← Lib.toList_data] at hV
 cases hem : p.toList.isEmpty
 case true =>
  have hem' : p'.toList.isEmpty = false := by
   cases h : p'.toList.isEmpty
   ·rfl
   ·exfalso
    apply HPN.out
    apply toList_inj
    rw [List.isEmpty_iff] at hem h
    rw [hem, h]
  rw [hem, hem'] at hV
  have HE := Lib.hid hV
  clear hV hem'
  go_wp2_with fail
  go_ret
  exact ⟨by rw [Lib.toList_data, Lib.toList_data] at HE; rw [HE.out]; rfl, hW2.drew⟩
 cases hem' : p'.toList.isEmpty
 case true =>
  rw [hem, hem'] at hV
  have HE := Lib.hid hV
  clear hV
  go_wp2_with fail
  go_ret
  exact ⟨by rw [Lib.toList_data, Lib.toList_data] at HE; rw [HE.out]; rfl, hW2.drew⟩
 rw [hem, hem', Lib.toList_data, Lib.toList_data] at hV
 have HE := Lib.hid (show cmpV a b c p.data.toList a' b' c' p'.data.toList = lcmp (Sem4.dots p.data.toList) (Sem4.dots p'.data.toList) from hV)
 clear hV
 go_wp2_with fail
 go_upto_region 10 with fail
 have hWW := hW2.drew
 have k3 : ((((w.alloc (.cells #[.int .i64 a, .int .i64 b, .int .i64 c, .string p] 41)).alloc (.cells #[.int .i64 a', .int .i64 b', .int .i64 c', .string p'] 41)).alloc (.cells #[.int .i64 o0, .int .i64 o1, .int .i64 o2] 3)).drew).cell? ⟨w.heap.size, 3, none⟩ = some (.string p) := by go_simp
 have k3' : ((((w.alloc (.cells #[.int .i64 a, .int .i64 b, .int .i64 c, .string p] 41)).alloc (.cells #[.int .i64 a', .int .i64 b', .int .i64 c', .string p'] 41)).alloc (.cells #[.int .i64 o0, .int .i64 o1, .int .i64 o2] 3)).drew).cell? ⟨w.heap.size + 1, 3, none⟩ = some (.string p') := by go_simp
 generalize ((((w.alloc (.cells #[.int .i64 a, .int .i64 b, .int .i64 c, .string p] 41)).alloc (.cells #[.int .i64 a', .int .i64 b', .int .i64 c', .string p'] 41)).alloc (.cells #[.int .i64 o0, .int .i64 o1, .int .i64 o2] 3)).drew) = W at hWW k3 k3' ⊢
 go_cut [6, 7] (fun v u wx => Strs wx v (Sem4.dots p.data.toList) ∧ Strs wx u (Sem4.dots p'.data.toList) ∧ Below w.heap.size w wx)
 case first =>
  have hd0 := hWW.drew
  go_region_held3 (fun w' => w'.cell? ⟨w.heap.size, 3, none⟩ = some (.string p) ∧ w'.cell? ⟨w.heap.size + 1, 3, none⟩ = some (.string p') ∧ Below w.heap.size w w') (go_keep)
   (first
    | (go_at_call_of 56 (Value.string p); refine (split_keep p w _ HE0.out hp w.heap.size _ _ (by assumption)).mono ?_; rintro e w1 ⟨v1, rfl, hv1, hb1, hk1⟩)
    | (go_at_call_of 56 (Value.string p'); refine (split_keep p' w _ HE0.out hp' w.heap.size _ _ (by assumption)).mono ?_; rintro e w2 ⟨v2, rfl, hv2, hb2, hk2⟩))
  all_goals (go_wp2_with fail; go_meet; first | exact ⟨hv1.below hb2 (Nat.le_refl _), hv2, hk2.2.2⟩ | exact ⟨hv1, hv2.below hb1 (Nat.le_refl _), hk1.2.2⟩)
 case rest =>
  obtain ⟨hv, hu, hbw⟩ := hcut
  obtain ⟨xs, hxs⟩ : ∃ xs, Sem4.dots p.data.toList = xs := ⟨_, rfl⟩
  obtain ⟨ys, hys⟩ : ∃ ys, Sem4.dots p'.data.toList = ys := ⟨_, rfl⟩
  have hx0 : 0 < xs.length := by rw [← hxs]; exact List.length_pos_iff.2 (Sem4.dots_ne _)
  have hy0 : 0 < ys.length := by rw [← hys]; exact List.length_pos_iff.2 (Sem4.dots_ne _)
  have hx1 : xs.length ≤ 301 := by have := dots_len p.data.toList; rw [hxs, ← Lib.size_eq] at this; omega
  have hy1 : ys.length ≤ 301 := by have := dots_len p'.data.toList; rw [hys, ← Lib.size_eq] at this; omega
  have HXs := Lib.hid (show ∀ l ∈ xs, l.length ≤ 300 from fun l hl => by rw [← hxs] at hl; have := dots_part_size _ l hl; rw [← Lib.size_eq] at this; omega)
  have HYs := Lib.hid (show ∀ l ∈ ys, l.length ≤ 300 from fun l hl => by rw [← hys] at hl; have := dots_part_size _ l hl; rw [← Lib.size_eq] at this; omega)
  rw [hxs] at hv
  rw [hys] at hu
  obtain ⟨bx, ox, capx, rfl, hbx, hcx⟩ := hv.full hx0
  obtain ⟨by', oy, capy, rfl, hby, hcy⟩ := hu.full hy0
  have HE2 : Hid (cmpV a b c p.data.toList a' b' c' p'.data.toList = lcmp xs ys) := by
   show _ = _
   rw [HE.out, hxs, hys]
  have HCX := Lib.hid hcx
  have HCY := Lib.hid hcy
  clear hcx hcy hv hu hxs hys HE
  go_wp2_with fail
  have hmn : (min (xs.length : Int) (ys.length : Int)) = ((min xs.length ys.length : Nat) : Int) := by omega
  rw [hmn]
  obtain ⟨mn, hmn2⟩ : ∃ m, min xs.length ys.length = m := ⟨_, rfl⟩
  rw [hmn2]
  have mx : mn ≤ xs.length := by omega
  have my : mn ≤ ys.length := by omega
  have HMN := Lib.hid (show mn = xs.length ∨ mn = ys.length by omega)
  clear hmn hmn2
  go_loopw [8, 9, 52] (fun _ _ i wr => LRelP xs ys wc i wr) (fun _ _ i _ => mn - (intOf i).toNat)
  case atStart => exact ⟨0, Nat.zero_le _, Nat.zero_le _, rfl, rfl, Below.refl _ _⟩
  case round =>
   obtain ⟨k, hkx, hky, rfl, hl, hbr⟩ := hrel
   have HL := Lib.hid hl
   clear hl
   by_cases hlt : k < mn
   ·have hx : k < xs.length := by omega
    have hy : k < ys.length := by omega
    have i0 : (0 : Int) ≤ (k : Int) := by omega
    have i1 : (k : Int) < (xs.length : Int) := by omega
    have i2 : (k : Int) < (ys.length : Int) := by omega
    have cx := (hbr.cell (p := ⟨bx, ox + k, none⟩) hbx).trans (HCX.out k hx)
    have cy := (hbr.cell (p := ⟨by', oy + k, none⟩) hby).trans (HCY.out k hy)
    obtain ⟨r, hr⟩ : ∃ r, partsCmp xs[k] ys[k] = r := ⟨_, rfl⟩
    have HR2 := Lib.hid hr
    have HS := Lib.hid (lcmp_step hx hy)
    have s1 := HXs.out _ (List.getElem_mem hx)
    have s2 := HYs.out _ (List.getElem_mem hy)
    clear hr
    go_wp2_with fail
    refine region_still_tail 8 (by kernel_rfl) (by kernel_rfl) ?_
    simp only [List.take_succ_cons, List.take_zero, List.drop_succ_cons, List.drop_zero]
    repeat still_step
    refine wpStill_nil ?_
    go_wp2_with fail
    refine (partsP_any xs[k] ys[k] _ (by omega) (by omega)).mono ?_
    rintro e w1 ⟨rfl, hb1⟩
    rw [HR2.out]
    have hb2 := below_then hbr.drew hb1
    by_cases hz : r = 0
    ·have hq : (r != 0) = false := by simpa using hz
     have HZ := Lib.hid hz
     clear hz
     go_wp2_with fail
     go_roundw
     case rel =>
      refine ⟨k + 1, hx, hy, by go_num, ?_, hb2⟩
      rw [HL.out, HS.out, HR2.out, HZ.out, or2_zero]
     case measure => simp [intOf]; omega
    ·have hq : (r != 0) = true := by simpa using hz
     have HF : Hid (cmpV a b c p.data.toList a' b' c' p'.data.toList = r) := by
      show _ = _
      rw [HE2.out, HL.out, HS.out, HR2.out, or2_ne hz]
     clear hz
     go_wp2_with fail
     go_ret
     exact ⟨by rw [HF.out]; rfl, below_then hbw hb2⟩
   ·have q : decide (k < mn) = false := by simp; omega
    have HO2 := Lib.hid (lcmp_end hkx hky (by have := HMN.out; omega))
    clear hlt
    go_wp2_with fail
    refine (cmpInt_any _ _ _).mono ?_
    rintro e w1 ⟨rfl, rfl⟩
    go_wp2_with fail
    go_ret
    exact ⟨by rw [HE2.out, HL.out, HO2.out]; rfl, below_then hbw hbr⟩
end Go.Proofs.YtbgimpeklblcjaaGreatDoor
