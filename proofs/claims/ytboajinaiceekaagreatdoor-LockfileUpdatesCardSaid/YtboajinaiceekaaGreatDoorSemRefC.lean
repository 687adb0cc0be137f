/- The reference of layer 4: order, texts, nonzero: walks. -/
import Derived.Test.YtboajinaiceekaaGreatDoorSemMath
import Derived.Test.YtboajinaiceekaaGreatDoorSemRefA
import Derived.StillTailTactics
import Derived.Deep.RegionHeld3
import Derived.Deep.DeepCutAuto
import Derived.Outline
namespace Go.Proofs.YtboajinaiceekaaGreatDoor
open Go.RowKit
set_option maxHeartbeats 400000 in
theorem refOrder_any (a b : Int) (w : World) :
    Calls Tryz.prog 72 #[.int .i64 a, .int .i64 b] w fun e w' => e = .returned (.int .i64 (ord a b)) ∧ w = w' := by
  by_cases h1 : a < b
  · have HE : Hid (ord a b = -1) := by show _ = _; unfold ord; rw [if_pos h1]
    go_enter Tryz.func72, Tryz.ntmps72
    go_wp2
    go_ret
    exact ⟨by rw [HE.out]; rfl, rfl⟩
  by_cases h2 : b < a
  · have HE : Hid (ord a b = 1) := by show _ = _; unfold ord; rw [if_neg h1, if_pos h2]
    go_enter Tryz.func72, Tryz.ntmps72
    go_wp2
    go_ret
    exact ⟨by rw [HE.out]; rfl, rfl⟩
  · have HE : Hid (ord a b = 0) := by show _ = _; unfold ord; rw [if_neg h1, if_neg h2]
    go_enter Tryz.func72, Tryz.ntmps72
    go_wp2
    go_ret
    exact ⟨by rw [HE.out]; rfl, rfl⟩
set_option maxHeartbeats 400000 in
theorem refTexts_any (a b : ByteArray) (w : World) :
    Calls Tryz.prog 114 #[.string a, .string b] w fun e w' => e = .returned (.int .i64 (txt a.data.toList b.data.toList)) ∧ w = w' := by
  rw [← Lib.toList_data, ← Lib.toList_data]
  cases h1 : Op.bytesLess a.toList b.toList
  · cases h2 : (a.toList == b.toList)
    · have HE : Hid (txt a.toList b.toList = 1) := by show _ = _; unfold txt; rw [h1, h2]; rfl
      go_enter Tryz.func114, Tryz.ntmps114
      go_wp2
      go_ret
      exact ⟨by rw [HE.out]; rfl, rfl⟩
    · have HE : Hid (txt a.toList b.toList = 0) := by show _ = _; unfold txt; rw [h1, h2]; rfl
      go_enter Tryz.func114, Tryz.ntmps114
      go_wp2
      go_ret
      exact ⟨by rw [HE.out]; rfl, rfl⟩
  · have HE : Hid (txt a.toList b.toList = -1) := by show _ = _; unfold txt; rw [h1]; rfl
    go_enter Tryz.func114, Tryz.ntmps114
    go_wp2
    go_ret
    exact ⟨by rw [HE.out]; rfl, rfl⟩
def nonz (a b : List UInt8) : Int := if a.isEmpty && b.isEmpty then 0 else 1
set_option maxHeartbeats 400000 in
theorem refNonzero_any (a b : ByteArray) (w : World) :
    Calls Tryz.prog 73 #[.string a, .string b] w fun e w' => e = .returned (.int .i64 (nonz a.data.toList b.data.toList)) ∧ w = w' := by
  rw [← Lib.toList_data, ← Lib.toList_data]
  cases h1 : a.toList.isEmpty <;> cases h2 : b.toList.isEmpty
  all_goals
    have HE := Lib.hid (show nonz a.toList b.toList = _ by unfold nonz; rw [h1, h2])
    go_enter Tryz.func73, Tryz.ntmps73
    go_wp2
    go_ret
    exact ⟨by rw [HE.out]; rfl, rfl⟩
end Go.Proofs.YtboajinaiceekaaGreatDoor
namespace Go.Proofs.YtboajinaiceekaaGreatDoor
open Go.RowKit
def PadRel (l : List UInt8) (n : Nat) (v : Value) : Prop := ∃ j : Nat, j ≤ n - l.length ∧ v = .string (S (List.replicate j 48 ++ l))
theorem texts_as (a b : List UInt8) (w : World) : Calls Tryz.prog 114 #[.string (S a), .string (S b)] w fun e w' => e = .returned (.int .i64 (txt a b)) ∧ w = w' := refTexts_any (S a) (S b) w
theorem zero_app (l : List UInt8) (j : Nat) : (⟨#[48]⟩ : ByteArray) ++ S (List.replicate j 48 ++ l) = S (List.replicate (j + 1) 48 ++ l) := by
  rw [show (⟨#[48]⟩ : ByteArray) = S [48] from rfl, S_append, List.replicate_succ]; rfl
set_option maxRecDepth 100000 in
set_option maxHeartbeats 1000000 in
theorem refPartsCmp_any (a b : List UInt8) (w : World) (ha : a.length ≤ 100000) (hb : b.length ≤ 100000) :
    Calls Tryz.prog 75 #[.string (S a), .string (S b)] w fun e w' => e = .returned (.int .i64 (partsCmp a b)) ∧ w = w' := by
  have za : (S a).size ≤ 9223372036854775807 := by rw [S_size]; omega
  have zb : (S b).size ≤ 9223372036854775807 := by rw [S_size]; omega
  cases hA : Sem4.digits a <;> cases hB : Sem4.digits b
  · have HA : Hid (Sem4.digits (S a).data.toList = false) := hA
    have HB : Hid (Sem4.digits (S b).data.toList = false) := hB
    have HE : Hid (partsCmp a b = txt a b) := by show _ = _; unfold partsCmp; rw [hA, hB]; rfl
    clear hA hB
    go_enter Tryz.func75, Tryz.ntmps75
    go_wp2_with fail
    refine (digits_as _ false HA.out _ za).mono ?_
    rintro e w1 ⟨rfl, rfl⟩
    go_wp2_with fail
    refine (digits_as _ false HB.out _ zb).mono ?_
    rintro e w1 ⟨rfl, rfl⟩
    go_wp2_with (go_at_call 114; go_must (refine (texts_as _ _ _).mono ?_); rintro e w1 ⟨rfl, rfl⟩)
    go_ret
    exact ⟨by rw [HE.out]; rfl, rfl⟩
  · have HA : Hid (Sem4.digits (S a).data.toList = false) := hA
    have HB : Hid (Sem4.digits (S b).data.toList = true) := hB
    have HE : Hid (partsCmp a b = 1) := by show _ = _; unfold partsCmp; rw [hA, hB]; rfl
    clear hA hB
    go_enter Tryz.func75, Tryz.ntmps75
    go_wp2_with fail
    refine (digits_as _ false HA.out _ za).mono ?_
    rintro e w1 ⟨rfl, rfl⟩
    go_wp2_with fail
    refine (digits_as _ true HB.out _ zb).mono ?_
    rintro e w1 ⟨rfl, rfl⟩
    go_wp2_with fail
    go_ret
    exact ⟨by rw [HE.out]; rfl, rfl⟩
  · have HA : Hid (Sem4.digits (S a).data.toList = true) := hA
    have HB : Hid (Sem4.digits (S b).data.toList = false) := hB
    have HE : Hid (partsCmp a b = -1) := by show _ = _; unfold partsCmp; rw [hA, hB]; rfl
    clear hA hB
    go_enter Tryz.func75, Tryz.ntmps75
    go_wp2_with fail
    refine (digits_as _ true HA.out _ za).mono ?_
    rintro e w1 ⟨rfl, rfl⟩
    go_wp2_with fail
    refine (digits_as _ false HB.out _ zb).mono ?_
    rintro e w1 ⟨rfl, rfl⟩
    go_wp2_with fail
    go_ret
    exact ⟨by rw [HE.out]; rfl, rfl⟩
  · have HA : Hid (Sem4.digits (S a).data.toList = true) := hA
    have HB : Hid (Sem4.digits (S b).data.toList = true) := hB
    have HE : Hid (partsCmp a b = txt (pad b.length a) (pad a.length b)) := by show _ = _; unfold partsCmp; rw [hA, hB]; rfl
    clear hA hB
    go_enter Tryz.func75, Tryz.ntmps75
    go_wp2_with fail
    refine (digits_as _ true HA.out _ za).mono ?_
    rintro e w1 ⟨rfl, rfl⟩
    go_wp2_with fail
    refine (digits_as _ true HB.out _ zb).mono ?_
    rintro e w1 ⟨rfl, rfl⟩
    go_wp2_with fail
    go_loop [0] (fun v => PadRel a b.length v) (fun v => b.length - (match v with | .string s => s.size | _ => 0))
    case atStart => exact ⟨0, Nat.zero_le _, rfl⟩
    case round =>
      obtain ⟨j, hj, rfl⟩ := hrel
      have hz : (S (List.replicate j 48 ++ a)).size = j + a.length := by rw [S_size]; simp
      have hz1 : (S (List.replicate j 48 ++ a)).size ≤ j + a.length := by omega
      have hz2 : j + a.length ≤ (S (List.replicate j 48 ++ a)).size := by omega
      have hb1 : (S b).size ≤ b.length := by rw [S_size]; exact Nat.le_refl _
      have hb2 : b.length ≤ (S b).size := by rw [S_size]; exact Nat.le_refl _
      have HZ := Lib.hid (zero_app a j)
      clear hz
      by_cases hlt : j + a.length < b.length
      · go_wp2_with fail
        go_round
        case rel => exact ⟨j + 1, by omega, by rw [HZ.out]⟩
        case measure =>
          show b.length - (_ ++ _ : ByteArray).size < b.length - (S _).size
          rw [HZ.out, S_size, S_size]; simp; omega
      · have HJ : Hid (List.replicate j 48 ++ a = pad b.length a) := by
          show _ = _
          unfold pad
          rw [show j = b.length - a.length by omega]
        go_wp2_with fail
        go_loop [1] (fun v => PadRel b a.length v) (fun v => a.length - (match v with | .string s => s.size | _ => 0))
        case atStart => exact ⟨0, Nat.zero_le _, rfl⟩
        case round =>
          obtain ⟨i, hi, rfl⟩ := hrel
          have hy : (S (List.replicate i 48 ++ b)).size = i + b.length := by rw [S_size]; simp
          have hy1 : (S (List.replicate i 48 ++ b)).size ≤ i + b.length := by omega
          have hy2 : i + b.length ≤ (S (List.replicate i 48 ++ b)).size := by omega
          have HY := Lib.hid (zero_app b i)
          clear hy
          by_cases hl2 : i + b.length < j + a.length
          · go_wp2_with fail
            go_round
            case rel => exact ⟨i + 1, by omega, by rw [HY.out]⟩
            case measure =>
              show a.length - (_ ++ _ : ByteArray).size < a.length - (S _).size
              rw [HY.out, S_size, S_size]; simp; omega
          · have HI : Hid (List.replicate i 48 ++ b = pad a.length b) := by
              show _ = _
              unfold pad
              rw [show i = a.length - b.length by omega]
            go_wp2_with (go_at_call 114; go_must (refine (texts_as _ _ _).mono ?_); rintro e w1 ⟨rfl, rfl⟩)
            go_ret
            exact ⟨by rw [HE.out, ← HJ.out, ← HI.out]; rfl, rfl⟩
end Go.Proofs.YtboajinaiceekaaGreatDoor
namespace Go.Proofs.YtboajinaiceekaaGreatDoor
open Go.RowKit
theorem order_still (a b r : Int) (h : ord a b = r) (w : World) :
    Calls Tryz.prog 72 #[.int .i64 a, .int .i64 b] w fun e w' => e = .returned (.int .i64 r) ∧ w' = w :=
  (refOrder_any a b w).mono fun _ _ ⟨h1, h2⟩ => ⟨by rw [h1, h], h2.symm⟩
theorem nonz_still (a b : ByteArray) (r : Int) (h : nonz a.data.toList b.data.toList = r) (w : World) :
    Calls Tryz.prog 73 #[.string a, .string b] w fun e w' => e = .returned (.int .i64 r) ∧ w' = w :=
  (refNonzero_any a b w).mono fun _ _ ⟨h1, h2⟩ => ⟨by rw [h1, h], h2.symm⟩
theorem parts_still (a b : List UInt8) (r : Int) (h : partsCmp a b = r) (w : World) (ha : a.length ≤ 100000) (hb : b.length ≤ 100000) :
    Calls Tryz.prog 75 #[.string (S a), .string (S b)] w fun e w' => e = .returned (.int .i64 r) ∧ w' = w :=
  (refPartsCmp_any a b w ha hb).mono fun _ _ ⟨h1, h2⟩ => ⟨by rw [h1, h], h2.symm⟩
theorem refParts_strs (s : ByteArray) (w : World) (hs : s.size ≤ 100000) :
    Calls Tryz.prog 74 #[.string s] w fun e w' => ∃ v, e = .returned v ∧ Strs w' v (Sem4.dots s.data.toList) ∧ Below w.heap.size w w' :=
  (refParts_any s w hs).mono fun _ _ ⟨v, _, h1, h2, h3⟩ => ⟨v, h1, Strs.of_owns h2, h3⟩
theorem refParts_keep (s : ByteArray) (w : World) (hs : s.size ≤ 100000) (B : Nat) (x y : Value) (h : w.cell? ⟨B, 3, none⟩ = some x ∧ w.cell? ⟨B + 1, 3, none⟩ = some y) :
    Calls Tryz.prog 74 #[.string s] w fun e w' => ∃ v, e = .returned v ∧ Strs w' v (Sem4.dots s.data.toList) ∧ Below w.heap.size w w' ∧ (w'.cell? ⟨B, 3, none⟩ = some x ∧ w'.cell? ⟨B + 1, 3, none⟩ = some y) :=
  (refParts_strs s w hs).mono fun _ _ ⟨v, h1, h2, h3⟩ => ⟨v, h1, h2, h3, (h3.cell (p := ⟨B, 3, none⟩) (cell_lt h.1)).trans h.1, (h3.cell (p := ⟨B + 1, 3, none⟩) (cell_lt h.2)).trans h.2⟩
def C3Rel (o0 o1 o2 : Int) (i : Value) : Prop := i = .int .i64 0 ∨ (i = .int .i64 1 ∧ o0 = 0) ∨ (i = .int .i64 2 ∧ o0 = 0 ∧ o1 = 0) ∨ (i = .int .i64 3 ∧ o0 = 0 ∧ o1 = 0 ∧ o2 = 0)
def LRel (xs ys : List (List UInt8)) (w : World) (i : Value) (wr : World) : Prop := ∃ k q : Nat, k ≤ xs.length ∧ k ≤ ys.length ∧ i = .int .i64 (k : Int) ∧ lcmp xs ys = lcmp (xs.drop k) (ys.drop k) ∧ wr = w.drewN q
set_option maxRecDepth 100000 in
set_option maxHeartbeats 1000000 in
theorem refCmp_any (a b c : Int) (p : ByteArray) (a' b' c' : Int) (p' : ByteArray) (w : World) (hp : p.size ≤ 300) (hp' : p'.size ≤ 300) :
    Calls Tryz.prog 44 #[.agg #[.int .i64 a, .int .i64 b, .int .i64 c, .string p], .agg #[.int .i64 a', .int .i64 b', .int .i64 c', .string p']] w fun e w' =>
      e = .returned (.int .i64 (cmpV a b c p.data.toList a' b' c' p'.data.toList)) ∧ Below w.heap.size w w' := by
  obtain ⟨o0, h0⟩ : ∃ o, ord a a' = o := ⟨_, rfl⟩
  obtain ⟨o1, h1⟩ : ∃ o, ord b b' = o := ⟨_, rfl⟩
  obtain ⟨o2, h2⟩ : ∃ o, ord c c' = o := ⟨_, rfl⟩
  have HV : Hid (cmpV a b c p.data.toList a' b' c' p'.data.toList = or2 (or2 o0 (or2 o1 o2)) (cmpPre p.data.toList p'.data.toList)) := by
    show _ = _
    unfold cmpV cmp3; rw [h0, h1, h2]
  have H0 := Lib.hid h0
  have H1 := Lib.hid h1
  have H2 := Lib.hid h2
  clear h0 h1 h2
  have hW := (((Below.refl w.heap.size w).alloc (Nat.le_refl _) (.cells #[.int .i64 a, .int .i64 b, .int .i64 c, .string p] 45)).alloc (by simp) (.cells #[.int .i64 a', .int .i64 b', .int .i64 c', .string p'] 45)).alloc (by simp; omega) (.cells #[.int .i64 o0, .int .i64 o1, .int .i64 o2] 3)
  go_enter Tryz.func44, Tryz.ntmps44
  go_wp2_with fail
  refine region_still_tail 15 (by kernel_rfl) (by kernel_rfl) ?_
  simp only [List.take_succ_cons, List.take_zero, List.drop_succ_cons, List.drop_zero]
  repeat still_step
  still_call (order_still _ _ _ H0.out _)
  repeat still_step
  still_call (order_still _ _ _ H1.out _)
  repeat still_step
  still_call (order_still _ _ _ H2.out _)
  repeat still_step
  refine wpStill_nil ?_
  go_wp2_with fail
  go_loop [6] (fun i => C3Rel o0 o1 o2 i) (fun i => 3 - (intOf i).toNat)
  case atStart => exact .inl rfl
  case round =>
    rcases hrel with rfl | ⟨rfl, hz0⟩ | ⟨rfl, hz0, hz1⟩ | ⟨rfl, hz0, hz1, hz2⟩
    · by_cases hz : o0 = 0
      · subst hz
        go_wp2_with fail
        go_round
        case rel => exact .inr (.inl ⟨rfl, rfl⟩)
        case measure => simp [intOf]
      · have q : (o0 != 0) = true := by simpa using hz
        have HE := Lib.hid (show cmpV a b c p.data.toList a' b' c' p'.data.toList = o0 by rw [HV.out, or2_ne (a := o0) hz, or2_ne hz])
        clear hz
        go_wp2_with fail
        go_ret
        exact ⟨by rw [HE.out]; rfl, hW.drew⟩
    · subst hz0
      by_cases hz : o1 = 0
      · subst hz
        go_wp2_with fail
        go_round
        case rel => exact .inr (.inr (.inl ⟨rfl, rfl, rfl⟩))
        case measure => simp [intOf]
      · have q : (o1 != 0) = true := by simpa using hz
        have HE := Lib.hid (show cmpV a b c p.data.toList a' b' c' p'.data.toList = o1 by rw [HV.out, or2_zero, or2_ne (a := o1) hz, or2_ne hz])
        clear hz
        go_wp2_with fail
        go_ret
        exact ⟨by rw [HE.out]; rfl, hW.drew⟩
    · subst hz0 hz1
      by_cases hz : o2 = 0
      · subst hz
        go_wp2_with fail
        go_round
        case rel => exact .inr (.inr (.inr ⟨rfl, rfl, rfl, rfl⟩))
        case measure => simp [intOf]
      · have q : (o2 != 0) = true := by simpa using hz
        have HE := Lib.hid (show cmpV a b c p.data.toList a' b' c' p'.data.toList = o2 by rw [HV.out, or2_zero, or2_zero, or2_ne hz])
        clear hz
        go_wp2_with fail
        go_ret
        exact ⟨by rw [HE.out]; rfl, hW.drew⟩
    · subst hz0 hz1 hz2
      have hV := HV.out
      rw [or2_zero, or2_zero, or2_zero] at hV
      have z1 : p.toList.isEmpty = decide (p.size = 0) := by rw [Lib.toList_data, Lib.size_eq]; cases p.data.toList <;> simp
      have z2 : p'.toList.isEmpty = decide (p'.size = 0) := by rw [Lib.toList_data, Lib.size_eq]; cases p'.data.toList <;> simp
      cases hem : p.toList.isEmpty <;> cases hem' : p'.toList.isEmpty
      · have HE : Hid (cmpV a b c p.data.toList a' b' c' p'.data.toList = lcmp (Sem4.dots p.data.toList) (Sem4.dots p'.data.toList)) := by
          show _ = _
          rw [hV]; unfold cmpPre; rw [← Lib.toList_data, ← Lib.toList_data, hem, hem']; rfl
        clear hV z1 z2
        go_wp2_with fail
        go_upto_region 9 with fail
        go_cut [7, 8] (fun v u wx => Strs wx v (Sem4.dots p.data.toList) ∧ Strs wx u (Sem4.dots p'.data.toList) ∧ Below w.heap.size w wx)
        case first =>
          go_region_held3 (fun w' => w'.cell? ⟨w.heap.size, 3, none⟩ = some (.string p) ∧ w'.cell? ⟨w.heap.size + 1, 3, none⟩ = some (.string p')) (go_keep)
            (first
              | (go_at_call_of 74 (Value.string p); refine (refParts_keep p _ (by omega) w.heap.size _ _ (by assumption)).mono ?_; rintro e w1 ⟨v1, rfl, hv1, hb1, hk1⟩)
              | (go_at_call_of 74 (Value.string p'); refine (refParts_keep p' _ (by omega) w.heap.size _ _ (by assumption)).mono ?_; rintro e w2 ⟨v2, rfl, hv2, hb2, hk2⟩))
          all_goals (go_wp2_with fail; go_meet; first | exact ⟨hv1.below hb2 (Nat.le_refl _), hv2, below_then (below_then hW.drew.drew hb1) hb2⟩ | exact ⟨hv1, hv2.below hb1 (Nat.le_refl _), below_then (below_then hW.drew.drew hb2) hb1⟩)
        case rest =>
          obtain ⟨hv, hu, hbw⟩ := hcut
          obtain ⟨xs, hxs⟩ : ∃ xs, Sem4.dots p.data.toList = xs := ⟨_, rfl⟩
          obtain ⟨ys, hys⟩ : ∃ ys, Sem4.dots p'.data.toList = ys := ⟨_, rfl⟩
          have hx0 : 0 < xs.length := by rw [← hxs]; exact List.length_pos_iff.2 (Sem4.dots_ne _)
          have hy0 : 0 < ys.length := by rw [← hys]; exact List.length_pos_iff.2 (Sem4.dots_ne _)
          have hx1 : xs.length ≤ 301 := by have := dots_len p.data.toList; rw [hxs, ← Lib.size_eq] at this; omega
          have hy1 : ys.length ≤ 301 := by have := dots_len p'.data.toList; rw [hys, ← Lib.size_eq] at this; omega
          have HXs := Lib.hid (show ∀ l ∈ xs, l.length ≤ 300 from fun l hl => by rw [← hxs] at hl; have := dots_part_size _ l hl; rw [← Lib.size_eq] at this; omega)
          have HYs := Lib.hid (show ∀ l ∈ ys, l.length ≤ 300 from fun l hl => by rw [← hys] at hl; have := dots_part_size _ l hl; rw [← Lib.size_eq] at this; omega)
          rw [hxs] at hv
          rw [hys] at hu
          obtain ⟨bx, ox, capx, rfl, _, hcx⟩ := hv.full hx0
          obtain ⟨by', oy, capy, rfl, _, hcy⟩ := hu.full hy0
          have HE2 : Hid (cmpV a b c p.data.toList a' b' c' p'.data.toList = lcmp xs ys) := by
            show _ = _
            rw [HE.out, hxs, hys]
          have HCX := Lib.hid hcx
          have HCY := Lib.hid hcy
          clear hcx hcy hv hu hxs hys HE
          go_wp2_with fail
          go_loopw [10, 9] (fun _ i wr => LRel xs ys wc i wr) (fun _ i _ => xs.length - (intOf i).toNat)
          case atStart => exact ⟨0, 0, Nat.zero_le _, Nat.zero_le _, rfl, rfl, rfl⟩
          case round =>
            obtain ⟨k, q, hkx, hky, rfl, hl, rfl⟩ := hrel
            have HL := Lib.hid hl
            clear hl
            by_cases hx : k < xs.length
            · have i1 : (k : Int) < (xs.length : Int) := by omega
              have i0 : (0 : Int) ≤ (k : Int) := by omega
              by_cases hy : k < ys.length
              · have i2 : (k : Int) < (ys.length : Int) := by omega
                have cx := HCX.out k hx
                have cy := HCY.out k hy
                obtain ⟨r, hr⟩ : ∃ r, partsCmp xs[k] ys[k] = r := ⟨_, rfl⟩
                have HR := Lib.hid hr
                have HS := Lib.hid (lcmp_step hx hy)
                have s1 := HXs.out _ (List.getElem_mem hx)
                have s2 := HYs.out _ (List.getElem_mem hy)
                clear hr
                go_wp2_with fail
                go_quiet ((go_at_call 75; first | exact Calls.quiet_of_same (parts_still _ _ _ HR.out _ (by omega) (by omega)) | exact quiet_same2 (parts_still _ _ _ HR.out _ (by omega) (by omega))))
                by_cases hz : r = 0
                · have hq : (r != 0) = false := by simpa using hz
                  have HZ := Lib.hid hz
                  clear hz
                  go_wp2_with fail
                  go_roundw
                  case rel =>
                    refine ⟨k + 1, _, hx, hy, by go_num, ?_, rfl⟩
                    rw [HL.out, HS.out, HR.out, HZ.out, or2_zero]
                  case measure => simp [intOf]; omega
                · have hq : (r != 0) = true := by simpa using hz
                  have HF : Hid (cmpV a b c p.data.toList a' b' c' p'.data.toList = r) := by
                    show _ = _
                    rw [HE2.out, HL.out, HS.out, HR.out, or2_ne hz]
                  clear hz
                  go_wp2_with fail
                  go_ret
                  exact ⟨by rw [HF.out]; rfl, below_drewN hbw _⟩
              · have i2 : decide (k < ys.length) = false := by simp; omega
                have HO := Lib.hid (lcmp_end hkx hky (.inr (by omega)))
                clear hy
                go_wp2_with (go_at_call 72; go_must (refine (refOrder_any _ _ _).mono ?_); rintro e w1 ⟨rfl, rfl⟩)
                go_ret
                exact ⟨by rw [HE2.out, HL.out, HO.out]; rfl, below_drewN hbw _⟩
            · have i1 : decide (k < xs.length) = false := by simp; omega
              have HO := Lib.hid (lcmp_end hkx hky (.inl (by omega)))
              clear hx
              go_wp2_with (go_at_call 72; go_must (refine (refOrder_any _ _ _).mono ?_); rintro e w1 ⟨rfl, rfl⟩)
              go_ret
              exact ⟨by rw [HE2.out, HL.out, HO.out]; rfl, below_drewN hbw _⟩
      · have hz : p'.size = 0 := by rw [hem'] at z2; simpa using z2
        have hnz : p.size ≠ 0 := by rw [hem] at z1; simpa using z1
        have HO := Lib.hid (show ord (p'.size : Int) (p.size : Int) = -1 from ord_lt (by omega))
        have HN : Hid (nonz p.data.toList p'.data.toList = 1) := by show _ = _; unfold nonz; rw [← Lib.toList_data, ← Lib.toList_data, hem, hem']; rfl
        have HE : Hid (cmpV a b c p.data.toList a' b' c' p'.data.toList = -1) := by
          show _ = _
          rw [hV]; unfold cmpPre; rw [← Lib.toList_data, ← Lib.toList_data, hem, hem']; rfl
        clear hz hnz hV z1 z2
        go_wp2_with fail
        go_quiet ((first | (go_at_call 72; exact quiet_same2 (order_still _ _ _ HO.out _)) | (go_at_call 73; exact quiet_same2 (nonz_still _ _ _ HN.out _))))
        go_wp2_with fail
        go_ret
        exact ⟨by rw [HE.out]; rfl, below_drewN hW.drew _⟩
      · have hz : p.size = 0 := by rw [hem] at z1; simpa using z1
        have hnz : p'.size ≠ 0 := by rw [hem'] at z2; simpa using z2
        have HO := Lib.hid (show ord (p'.size : Int) (p.size : Int) = 1 from ord_gt (by omega))
        have HN : Hid (nonz p.data.toList p'.data.toList = 1) := by show _ = _; unfold nonz; rw [← Lib.toList_data, ← Lib.toList_data, hem, hem']; rfl
        have HE : Hid (cmpV a b c p.data.toList a' b' c' p'.data.toList = 1) := by
          show _ = _
          rw [hV]; unfold cmpPre; rw [← Lib.toList_data, ← Lib.toList_data, hem, hem']; rfl
        clear hz hnz hV z1 z2
        go_wp2_with fail
        go_quiet ((first | (go_at_call 72; exact quiet_same2 (order_still _ _ _ HO.out _)) | (go_at_call 73; exact quiet_same2 (nonz_still _ _ _ HN.out _))))
        go_wp2_with fail
        go_ret
        exact ⟨by rw [HE.out]; rfl, below_drewN hW.drew _⟩
      · have hz : p.size = 0 := by rw [hem] at z1; simpa using z1
        have hz' : p'.size = 0 := by rw [hem'] at z2; simpa using z2
        have HO := Lib.hid (show ord (p'.size : Int) (p.size : Int) = 0 by rw [hz, hz']; exact ord_eq _)
        have HN : Hid (nonz p.data.toList p'.data.toList = 0) := by show _ = _; unfold nonz; rw [← Lib.toList_data, ← Lib.toList_data, hem, hem']; rfl
        have HE : Hid (cmpV a b c p.data.toList a' b' c' p'.data.toList = 0) := by
          show _ = _
          rw [hV]; unfold cmpPre; rw [← Lib.toList_data, ← Lib.toList_data, hem, hem']; rfl
        clear hz hz' hV z1 z2
        go_wp2_with fail
        go_quiet ((first | (go_at_call 72; exact quiet_same2 (order_still _ _ _ HO.out _)) | (go_at_call 73; exact quiet_same2 (nonz_still _ _ _ HN.out _))))
        go_wp2_with fail
        go_ret
        exact ⟨by rw [HE.out]; rfl, below_drewN hW.drew _⟩
end Go.Proofs.YtboajinaiceekaaGreatDoor
