/- The reference's commands: Show, Same: walks. -/
import Derived.Test.YtjjpngdbbjeaiaaGreatDoorCmdRef2
import Derived.Test.YtjjpngdbbjeaiaaGreatDoorCmd6
import Derived.Test.YtjjpngdbbjeaiaaGreatDoorRanProg2
namespace Go
open Go.RowKit
/-- a text, and words behind blanks -/
theorem join_front (W : List UInt8) : ∀ T : List (List UInt8), joinAt 32 (W :: T) = W ++ T.flatMap (fun t => 32 :: t)
  | [] => by simp [joinAt]
  | t :: T => by rw [joinAt, join_front t T]; simp
theorem join_take (W : List UInt8) (T : List (List UInt8)) (k : Nat) (h : k < T.length) : joinAt 32 (W :: T.take (k + 1)) = joinAt 32 (W :: T.take k) ++ 32 :: T[k] := by
  rw [join_front, join_front, List.take_succ_eq_append_getElem h, List.flatMap_append, List.append_assoc]
  simp only [List.flatMap_cons, List.flatMap_nil, List.append_nil]
end Go
namespace Go.Proofs.YtjjpngdbbjeaiaaGreatDoor
open Go.RowKit
def RShRel2 (X : ByteArray) (T : List (List UInt8)) (w : World) (o : Obj) (v i : Value) (wr : World) : Prop :=
  ∃ (k : Nat) (J : ByteArray), k ≤ T.length ∧ i = .int .i64 (k : Int) ∧ v = .string J ∧ J.data.toList = joinAt 32 (X.data.toList :: T.take k) ∧ Below (w.heap.size + 1) (w.alloc o) wr
set_option maxRecDepth 100000 in
set_option maxHeartbeats 2000000 in
theorem rcshow_any (X : ByteArray) (v : Value) (T : List (List UInt8)) (B : ByteArray) (w : World) (hv : Strs w v T) (hlen : ∃ a cap, v = .slice a T.length cap) (hs : ∀ l ∈ T, l.length ≤ 9223372036854775807) (hB : rightB X.data.toList T = true → B.size ≤ 4294967281) :
    Calls Tryz.prog 30 #[.agg #[.string X, v, .string B]] w (CShowAs ⟨X.data.toList, T, B.data.toList⟩ w) := by
  have HS := Lib.hid hs
  have HV := Lib.hid hv
  have HBz := Lib.hid hB
  obtain ⟨a, cap, rfl⟩ := hlen
  clear hs hv hB
  have hW := (Below.refl w.heap.size w).alloc (Nat.le_refl _) (.cells #[.string X, .slice a T.length cap, .string B] 52)
  obtain ⟨r, hr⟩ : ∃ r, rightB X.data.toList T = r := ⟨_, rfl⟩
  obtain ⟨bd, hbd⟩ : ∃ r, hasBody X.data.toList = r := ⟨_, rfl⟩
  have HK := Lib.hid (right_as X T r hr)
  have HHas := Lib.hid (has_as X bd hbd)
  obtain ⟨em, hem⟩ : ∃ em, B.toList.isEmpty = em := ⟨_, rfl⟩
  have HR := Lib.hid hr
  have HBd := Lib.hid hbd
  have HEM : Hid (B.data.toList.isEmpty = em) := by show _ = _; rw [← Lib.toList_data]; exact hem
  clear hr hbd
  cases r with
  | false =>
    have HF : Hid (cshow ⟨X.data.toList, T, B.data.toList⟩ = ([], 270)) := cshow_no HR.out
    clear hem
    go_enter Tryz.func30, Tryz.ntmps30
    go_wp2_with fail
    refine (HK.out _ _ (HV.out.below hW (Nat.le_refl _)) ⟨_, _, rfl⟩ HS.out).mono ?_
    rintro e w1 ⟨rfl, hb1⟩
    have hb1' := box_of hb1
    go_wp2_with fail
    go_ret2
    exact cshow_as (A := ⟨#[]⟩) HF.out (below_first hb1')
  | true =>
    have hB := HBz.out HR.out
    have hsm := right_small HR.out
    have hT0 : 0 < T.length := by omega
    have hT4 : T.length ≤ 4 := by omega
    have HSm := Lib.hid hsm.2.2.2
    obtain ⟨bx, ox, cx, hva, hbx, hcx⟩ := HV.out.full hT0
    have ha : a = some ⟨bx, ox, none⟩ := by injection hva
    subst ha
    have HCX := Lib.hid hcx
    clear hva hcx hsm
    have key : bd = false ∧ em = false ∨ (bd = true ∨ em = true) := by cases bd <;> cases em <;> simp
    rcases key with ⟨hb0, he0⟩ | key
    · subst hb0 he0
      have HF : Hid (cshow ⟨X.data.toList, T, B.data.toList⟩ = ([], 270)) := cshow_no2 HBd.out (by intro h; have := HEM.out; simp only at h; rw [h] at this; cases this)
      go_enter Tryz.func30, Tryz.ntmps30
      go_wp2_with fail
      refine (HK.out _ _ (HV.out.below hW (Nat.le_refl _)) ⟨_, _, rfl⟩ HS.out).mono ?_
      rintro e w1 ⟨rfl, hb1⟩
      have hb1' := box_of hb1
      have c0 := box_cells hb1' 0
      have c2 := box_cells hb1' 2
      simp at c0 c2
      go_wp2_with fail
      refine (HHas.out _).mono ?_
      rintro e w2 ⟨rfl, rfl⟩
      go_wp2_with fail
      go_ret2
      exact cshow_as (A := ⟨#[]⟩) HF.out (below_first hb1')
    have HYes : Hid (cshow ⟨X.data.toList, T, B.data.toList⟩ = if 8000 < (cmdText ⟨X.data.toList, T, B.data.toList⟩).length then ([], 3) else (cmdText ⟨X.data.toList, T, B.data.toList⟩, 0)) := by
      refine cshow_yes HR.out ?_
      rcases key with h | h
      · left; rw [← h]; exact HBd.out
      · right; have := HEM.out; rw [h] at this; exact List.isEmpty_iff.1 this
    have hways : (bd = true) ∨ (bd = false ∧ em = true) := by cases bd <;> cases em <;> simp at key ⊢
    clear key
    rcases hways with hbt | ⟨hbf, het⟩
    · subst hbt
      go_enter Tryz.func30, Tryz.ntmps30
      go_wp2_with fail
      refine (HK.out _ _ (HV.out.below hW (Nat.le_refl _)) ⟨_, _, rfl⟩ HS.out).mono ?_
      rintro e w1 ⟨rfl, hb1⟩
      have hb1' := box_of hb1
      have c0 := box_cells hb1' 0
      have c1 := box_cells hb1' 1
      have c2 := box_cells hb1' 2
      simp at c0 c1 c2
      go_wp2_with fail
      refine (HHas.out _).mono ?_
      rintro e w2 ⟨rfl, hw2⟩
      subst hw2
      go_wp2_with fail
      go_loopw [4, 5] (fun v i wr => RShRel2 X T w (.cells #[.string X, .slice (some ⟨bx, ox, none⟩) T.length cap, .string B] 52) v i wr) (fun _ i _ => T.length - (intOf i).toNat)
      case atStart => exact ⟨0, X, Nat.zero_le _, rfl, rfl, by simp [joinAt], hb1'⟩
      case round =>
        obtain ⟨k, J, hk, rfl, rfl, hJ, hb⟩ := hrel
        have HJ := Lib.hid hJ
        have hJs : J.size ≤ 400 := by
          rw [Lib.size_eq, hJ]
          have := joinAt_len 32 60 (X.data.toList :: T.take k) (fun p hp => HSm.out p (by
            rcases List.mem_cons.1 hp with h | h
            · rw [h]; simp
            · simp [List.mem_of_mem_take h]))
          have h2 : (X.data.toList :: T.take k).length ≤ 5 := by rw [List.length_cons, List.length_take]; omega
          have h5 : (X.data.toList :: T.take k).length * (60 + 1) ≤ 5 * 61 := Nat.mul_le_mul h2 (by omega)
          omega
        have c0 := box_cells hb 0
        have c1 := box_cells hb 1
        have c2 := box_cells hb 2
        simp at c0 c1 c2
        have hbW := below_first hb
        clear hJ
        by_cases hlt : k < T.length
        · have i0 : (0 : Int) ≤ (k : Int) := by omega
          have i1 : (k : Int) < (T.length : Int) := by omega
          have d0 := (hbW.cell (p := ⟨bx, ox + k, none⟩) hbx).trans (HCX.out k hlt)
          have HT := Lib.hid (join_take X.data.toList T k hlt)
          obtain ⟨A, hA⟩ : ∃ A, S T[k] = A := ⟨_, rfl⟩
          have HAd : Hid (A.data.toList = T[k]) := by show _ = _; rw [← hA]; rfl
          have hAs : A.size ≤ 60 := by rw [← hA, S_size]; exact HSm.out _ (by simp)
          rw [hA] at d0
          clear hA
          go_wp2_with fail
          go_roundw
          case rel => exact ⟨k + 1, J ++ ⟨#[32]⟩ ++ A, by omega, by go_num, rfl, by rw [HT.out, ← HJ.out, ← HAd.out]; simp [ByteArray.data_append], hb⟩
          case measure => simp [intOf]; omega
        · have q3 : decide (k < T.length) = false := decide_eq_false hlt
          have HJ2 : Hid (J.data.toList = joinAt 32 (X.data.toList :: T)) := by show _ = _; rw [HJ.out, List.take_of_length_le (by omega)]
          clear hlt
          go_wp2_with fail
          refine (HHas.out _).mono ?_
          rintro e w3 ⟨rfl, hw3⟩
          subst hw3
          have hsz : (J ++ ⟨#[10]⟩ ++ B).size = J.size + 1 + B.size := by rw [ByteArray.size_append, ByteArray.size_append]; rfl
          have ht : Hid (cmdText ⟨X.data.toList, T, B.data.toList⟩ = (J ++ ⟨#[10]⟩ ++ B).data.toList) := by
            show _ = _
            unfold cmdText
            simp only
            rw [HBd.out, if_pos rfl, ← HJ2.out]
            simp [ByteArray.data_append]
          by_cases h8 : 8000 < J.size + 1 + B.size
          · have q8 : decide ((8000 : Int) < (J.size : Int) + 1 + (B.size : Int)) = true := by simp; omega
            have HF : Hid (cshow ⟨X.data.toList, T, B.data.toList⟩ = ([], 3)) := by
              show _ = _
              rw [HYes.out, ht.out, if_pos (by rw [← Lib.size_eq, hsz]; exact h8)]
            clear hsz h8
            go_wp2_with fail
            go_ret2
            exact cshow_as (A := ⟨#[]⟩) HF.out hbW
          · have q8 : decide ((8000 : Int) < (J.size : Int) + 1 + (B.size : Int)) = false := by simp; omega
            have HF : Hid (cshow ⟨X.data.toList, T, B.data.toList⟩ = ((J ++ ⟨#[10]⟩ ++ B).data.toList, 0)) := by
              show _ = _
              rw [HYes.out, ht.out, if_neg (by rw [← Lib.size_eq, hsz]; exact h8)]
            clear hsz h8
            go_wp2_with fail
            go_ret2
            exact cshow_as HF.out hbW
    · subst hbf het
      go_enter Tryz.func30, Tryz.ntmps30
      go_wp2_with fail
      refine (HK.out _ _ (HV.out.below hW (Nat.le_refl _)) ⟨_, _, rfl⟩ HS.out).mono ?_
      rintro e w1 ⟨rfl, hb1⟩
      have hb1' := box_of hb1
      have c0 := box_cells hb1' 0
      have c1 := box_cells hb1' 1
      have c2 := box_cells hb1' 2
      simp at c0 c1 c2
      go_wp2_with fail
      refine (HHas.out _).mono ?_
      rintro e w2 ⟨rfl, hw2⟩
      subst hw2
      go_wp2_with fail
      go_loopw [4, 5] (fun v i wr => RShRel2 X T w (.cells #[.string X, .slice (some ⟨bx, ox, none⟩) T.length cap, .string B] 52) v i wr) (fun _ i _ => T.length - (intOf i).toNat)
      case atStart => exact ⟨0, X, Nat.zero_le _, rfl, rfl, by simp [joinAt], hb1'⟩
      case round =>
        obtain ⟨k, J, hk, rfl, rfl, hJ, hb⟩ := hrel
        have HJ := Lib.hid hJ
        have hJs : J.size ≤ 400 := by
          rw [Lib.size_eq, hJ]
          have := joinAt_len 32 60 (X.data.toList :: T.take k) (fun p hp => HSm.out p (by
            rcases List.mem_cons.1 hp with h | h
            · rw [h]; simp
            · simp [List.mem_of_mem_take h]))
          have h2 : (X.data.toList :: T.take k).length ≤ 5 := by rw [List.length_cons, List.length_take]; omega
          have h5 : (X.data.toList :: T.take k).length * (60 + 1) ≤ 5 * 61 := Nat.mul_le_mul h2 (by omega)
          omega
        have c0 := box_cells hb 0
        have c1 := box_cells hb 1
        have c2 := box_cells hb 2
        simp at c0 c1 c2
        have hbW := below_first hb
        clear hJ
        by_cases hlt : k < T.length
        · have i0 : (0 : Int) ≤ (k : Int) := by omega
          have i1 : (k : Int) < (T.length : Int) := by omega
          have d0 := (hbW.cell (p := ⟨bx, ox + k, none⟩) hbx).trans (HCX.out k hlt)
          have HT := Lib.hid (join_take X.data.toList T k hlt)
          obtain ⟨A, hA⟩ : ∃ A, S T[k] = A := ⟨_, rfl⟩
          have HAd : Hid (A.data.toList = T[k]) := by show _ = _; rw [← hA]; rfl
          have hAs : A.size ≤ 60 := by rw [← hA, S_size]; exact HSm.out _ (by simp)
          rw [hA] at d0
          clear hA
          go_wp2_with fail
          go_roundw
          case rel => exact ⟨k + 1, J ++ ⟨#[32]⟩ ++ A, by omega, by go_num, rfl, by rw [HT.out, ← HJ.out, ← HAd.out]; simp [ByteArray.data_append], hb⟩
          case measure => simp [intOf]; omega
        · have q3 : decide (k < T.length) = false := decide_eq_false hlt
          have HJ2 : Hid (J.data.toList = joinAt 32 (X.data.toList :: T)) := by show _ = _; rw [HJ.out, List.take_of_length_le (by omega)]
          clear hlt
          go_wp2_with fail
          refine (HHas.out _).mono ?_
          rintro e w3 ⟨rfl, hw3⟩
          subst hw3
          have q8 : decide ((8000 : Int) < (J.size : Int)) = false := by simp; omega
          have HF : Hid (cshow ⟨X.data.toList, T, B.data.toList⟩ = (J.data.toList, 0)) := by
            have ht : cmdText ⟨X.data.toList, T, B.data.toList⟩ = J.data.toList := by
              unfold cmdText
              simp only
              rw [HBd.out, HJ2.out]; simp
            show _ = _
            rw [HYes.out, ht, if_neg (by rw [← Lib.size_eq]; omega)]
          go_wp2_with fail
          go_ret2
          exact cshow_as HF.out hbW
def CSmRel (xs ys : List (List UInt8)) (w : World) (o o' : Obj) (i : Value) (wr : World) : Prop :=
  ∃ k : Nat, k ≤ xs.length ∧ i = .int .i64 (k : Int) ∧ xs.take k = ys.take k ∧ Below ((w.alloc o).alloc o').heap.size ((w.alloc o).alloc o') wr
set_option maxRecDepth 100000 in
set_option maxHeartbeats 1000000 in
/-- two commands are the same -/
theorem csame_self (X : ByteArray) (v u : Value) (T : List (List UInt8)) (B : ByteArray) (w : World) (hv : Strs w v T) (hlen : ∃ a cap, v = .slice a T.length cap) (hu : Strs w u T) (hlen' : ∃ a cap, u = .slice a T.length cap) :
    Calls Tryz.prog 27 #[.agg #[.string X, v, .string B], .agg #[.string X, u, .string B]] w fun e w' => e = .returned (.bool true) ∧ Below w.heap.size w w' := by
  obtain ⟨a, cap, rfl⟩ := hlen
  obtain ⟨a', cap', rfl⟩ := hlen'
  have hn := hv.cases.1
  unfold maxLen at hn
  have HC := Lib.hid hv.cases.2
  have HD := Lib.hid hu.cases.2
  have q1 : (X.toList == X.toList) = true := beq_self_eq_true _
  have q2 : (B.toList == B.toList) = true := beq_self_eq_true _
  have q3 : ((T.length : Int) != (T.length : Int)) = false := by simp
  clear hv hu
  go_enter Tryz.func27, Tryz.ntmps27
  go_wp2_with fail
  go_loopw [5] (fun i wr => CSmRel T T w (.cells #[.string X, .slice a T.length cap, .string B] 52) (.cells #[.string X, .slice a' T.length cap', .string B] 52) i wr) (fun i _ => T.length - (intOf i).toNat)
  case atStart => exact ⟨0, Nat.zero_le _, rfl, rfl, Below.refl _ _⟩
  case round =>
    obtain ⟨k, hk, rfl, _, hb⟩ := hrel
    obtain ⟨_, d1⟩ := two_cells hb 1
    obtain ⟨c1, _⟩ := two_cells hb 1
    have hW := two_below hb
    simp at c1 d1
    by_cases hlt : k < T.length
    · have i0 : (0 : Int) ≤ (k : Int) := by omega
      have i1 : (k : Int) < (T.length : Int) := by omega
      rcases HC.out with ⟨_, _, _, h0⟩ | ⟨bx, ox, cx, hva, _, hbx, hcx⟩
      · rw [h0] at hlt; cases hlt
      rcases HD.out with ⟨_, _, _, h0⟩ | ⟨by', oy, cy, hua, _, hby, hcy⟩
      · rw [h0] at hlt; cases hlt
      have ha : a = some ⟨bx, ox, none⟩ := by injection hva
      have ha' : a' = some ⟨by', oy, none⟩ := by injection hua
      subst ha ha'
      have e1 := (hW.cell (p := ⟨bx, ox + k, none⟩) hbx).trans (hcx k hlt)
      have e2 := (hW.cell (p := ⟨by', oy + k, none⟩) hby).trans (hcy k hlt)
      obtain ⟨A, hA⟩ : ∃ A, S T[k] = A := ⟨_, rfl⟩
      rw [hA] at e1 e2
      have q4 : (A.toList == A.toList) = true := beq_self_eq_true _
      clear hA hva hua hcx hcy HC HD
      go_wp2_with fail
      go_quiet (fail)
      go_wp2_with fail
      go_roundw
      case rel => exact ⟨k + 1, hlt, by go_num, rfl, below_drewN hb _⟩
      case measure => simp [intOf]; omega
    · have q5 : decide (k < T.length) = false := decide_eq_false hlt
      clear hlt
      go_wp2_with fail
      go_ret
      exact ⟨rfl, hW⟩
end Go.Proofs.YtjjpngdbbjeaiaaGreatDoor
