/- The program's ranges: bound: a walk. -/
import Derived.Test.YtjjpngdbbjeaiaaGreatDoorRanProg1
import Derived.Test.YtjjpngdbbjeaiaaGreatDoorRanLib
import Derived.Test.YtjjpngdbbjeaiaaGreatDoorSemProg3
namespace Go.Proofs.YtjjpngdbbjeaiaaGreatDoor
open Go.RowKit
def SgRel (s : ByteArray) (i : Value) : Prop := ∃ k : Nat, k ≤ s.size ∧ i = .int .i64 (k : Int) ∧ (s.data.toList.take k).all isSign = true
def BdRel (hd : List UInt8) (er : Int) (w1 : World) (o : Obj) (i : Value) (wr : World) : Prop :=
  ∃ j : Nat, 1 ≤ j ∧ j ≤ 6 ∧ i = .int .i64 (j : Int) ∧ (er = 0 → ∀ op : Nat, 1 ≤ op → op < j → signL (op : Int) ≠ hd) ∧ Below (w1.heap.size + 1) (w1.alloc o) wr
theorem sub_end (s : ByteArray) (k : Nat) : (s.extract k s.size).data.toList = s.data.toList.drop k := by
  rw [Lib.extract_data]
  refine List.take_of_length_le ?_
  rw [List.length_drop, ← Lib.size_eq]; exact Nat.le_refl _
theorem sub_head (s : ByteArray) (k : Nat) : (s.extract 0 k).data.toList = s.data.toList.take k := by
  rw [Lib.extract_data]; simp
theorem bound_out (l : List UInt8) (w w' : World) (b : Bnd) (ok : Bool) (v : Value) (hv : v = .tuple #[.agg #[.int .i64 b.op, .int .i64 b.v.a, .int .i64 b.v.b, .int .i64 b.v.c, .string b.v.p], .bool ok]) (h : BoundIs l b ok) (hb : Below w.heap.size w w') : BoundAs l w (.returned v) w' := by
  subst hv; exact ⟨b, ok, rfl, h, hb⟩
set_option maxRecDepth 100000 in
set_option maxHeartbeats 40000000 in
theorem bound_any (s : ByteArray) (w : World) (hE : Env w) (hs : s.size ≤ 100000) :
    Calls Tryz.prog 96 #[.string s] w (BoundAs s.data.toList w) := by
  have HE := Lib.hid hE
  clear hE
  go_enter Tryz.func96, Tryz.ntmps96
  go_wp2_with fail
  go_loop [4] (fun i => SgRel s i) (fun i => s.size - (intOf i).toNat)
  case atStart => exact ⟨0, Nat.zero_le _, rfl, rfl⟩
  case round =>
    obtain ⟨k, hk, rfl, hall⟩ := hrel
    have HA := Lib.hid hall
    clear hall
    have i0 : (0 : Int) ≤ (k : Int) := by omega
    have hcase : (∃ h : k < s.size, isSign s[k] = true) ∨ (∃ h : k < s.size, isSign s[k] = false) ∨ k = s.size := by
      by_cases h : k < s.size
      · cases hx : isSign s[k]
        · exact .inr (.inl ⟨h, hx⟩)
        · exact .inl ⟨h, hx⟩
      · exact .inr (.inr (by omega))
    rcases hcase with ⟨hlt, hx⟩ | hcase
    · have q : decide ((k : Int) < (s.size : Int)) = true := by simp; omega
      have i1 : (k : Int) < (s.size : Int) := by omega
      have HT := Lib.hid (take_byte s k hlt)
      have HX := Lib.hid hx
      obtain ⟨x, hxe⟩ : ∃ x, s[k] = x := ⟨_, rfl⟩
      rw [hxe] at HT HX
      clear hx
      go_wp2_with fail
      refine (index_sign x true HX.out _).mono ?_
      rintro e w1 ⟨n, rfl, hn, rfl⟩
      go_wp2_with fail
      go_round
      case rel => exact ⟨k + 1, by omega, by go_num, by rw [HT.out, List.all_append, HA.out]; simp [HX.out]⟩
      case measure => simp [intOf]; omega
    have HTD : Hid (s.data.toList.takeWhile isSign = s.data.toList.take k ∧ s.data.toList.dropWhile isSign = s.data.toList.drop k) := by
      show _ ∧ _
      rcases hcase with ⟨h, hx⟩ | rfl
      · exact sign_here h HA.out hx
      · exact sign_end HA.out
    have i2 : (k : Int) ≤ (s.size : Int) := by omega
    obtain ⟨D, hD⟩ : ∃ D, s.extract k s.size = D := ⟨_, rfl⟩
    obtain ⟨T, hT⟩ : ∃ T, s.extract 0 k = T := ⟨_, rfl⟩
    have HD : Hid (D.data.toList = s.data.toList.dropWhile isSign) := by show _ = _; rw [← hD, sub_end, HTD.out.2]
    have HT : Hid (T.data.toList = s.data.toList.takeWhile isSign) := by show _ = _; rw [← hT, sub_head, HTD.out.1]
    have hDs : D.size ≤ 100000 := by rw [Lib.size_eq, HD.out, HTD.out.2, List.length_drop, ← Lib.size_eq]; omega
    have HDs := Lib.hid hDs
    clear hDs HTD
    rcases hcase with ⟨hlt, hx⟩ | he
    · have q : decide ((k : Int) < (s.size : Int)) = true := by simp; omega
      have i1 : (k : Int) < (s.size : Int) := by omega
      have HX := Lib.hid hx
      obtain ⟨x, hxe⟩ : ∃ x, s[k] = x := ⟨_, rfl⟩
      rw [hxe] at HX
      clear hx
      go_wp2_with fail
      refine (index_sign x false HX.out _).mono ?_
      rintro e w1 ⟨n, rfl, hn, rfl⟩
      go_wp2_with fail
      refine (parse_any D _ (HE.out.alloc _) (by have := HDs.out; omega)).mono ?_
      rintro e w1 ⟨a, b, c, p, er, rfl, hpi, hb1⟩
      rw [HD.out] at hpi
      have hx1 := box_of hb1
      have HPI := Lib.hid hpi
      clear hb1 hpi
      go_wp2_with fail
      go_loopw [7] (fun i wr => BdRel (s.data.toList.takeWhile isSign) er w1 (.cells #[.int .i64 a, .int .i64 b, .int .i64 c, .string (S p)] 23) i wr) (fun i _ => 6 - (intOf i).toNat)
      case atStart => exact ⟨1, by omega, by omega, rfl, fun _ op h1 h2 => by omega, Below.refl _ _⟩
      case round =>
        obtain ⟨j, hj1, hj6, rfl, hno, hb⟩ := hrel
        have HN := Lib.hid hno
        clear hno
        have hxx := box_then hx1 (below_first hb)
        have hW := below_first hxx
        have d0 := box_cells hb 0
        have d1 := box_cells hb 1
        have d2 := box_cells hb 2
        have d3 := box_cells hb 3
        have z0 := box_cells hxx 0
        have z1 := box_cells hxx 1
        have z2 := box_cells hxx 2
        have z3 := box_cells hxx 3
        have z4 := box_cells hxx 4
        have f0 := box_free hxx 0
        have f1 := box_free hxx 1
        have f2 := box_free hxx 2
        have f3 := box_free hxx 3
        have f4 := box_free hxx 4
        simp at d0 d1 d2 d3 z0 z1 z2 z3 z4
        by_cases hlt6 : j < 6
        · have q5 : decide ((j : Int) ≤ 5) = true := by simp; omega
          by_cases he0 : er = 0
          · have qe : (er == 0) = true := by simpa using he0
            obtain ⟨A, hA⟩ : ∃ A, S (signL (j : Int)) = A := ⟨_, rfl⟩
            have HSA := Lib.hid hA
            by_cases hm : signL (j : Int) = s.data.toList.takeWhile isSign
            · have hAT : (A.toList == T.toList) = true := by
                rw [← hA, S_toList, Lib.toList_data, HT.out, hm]
                exact beq_self_eq_true _
              have HO : Hid (BoundIs s.data.toList ⟨(j : Int), ⟨a, b, c, S p⟩⟩ true) := by
                refine bound_yes hj1 hlt6 hm ?_
                rcases HPI.out with ⟨_, h⟩ | ⟨h, _⟩
                · exact h
                · rw [he0] at h; cases h
              clear hm hA he0 hlt6
              go_wp2_with fail
              go_quiet ((go_at_call 126; first | exact Calls.quiet_of_same (sign_as _ A HSA.out _) | exact quiet_same2 (sign_as _ A HSA.out _)))
              go_wp2_with fail
              exact bodyPost_ret (v := .tuple #[.agg #[.int .i64 (j : Int), .int .i64 a, .int .i64 b, .int .i64 c, .string (S p)], .bool true]) (by simp [results, Tryz.results96, go_sem, z0, z1, z2, z3, z4]) rfl (bound_out _ _ _ _ _ _ rfl HO.out (((((below_drewN hW nq).setCell (Nat.le_refl _) _).setCell (Nat.le_refl _) _).setCell (Nat.le_refl _) _).setCell (Nat.le_refl _) _ |>.setCell (Nat.le_refl _) _))
            · have hAT : (A.toList == T.toList) = false := by
                rw [← hA, S_toList, Lib.toList_data, HT.out]
                exact beq_eq_false_iff_ne.2 hm
              have HM := Lib.hid hm
              clear hm hA he0
              go_wp2_with fail
              go_quiet ((go_at_call 126; first | exact Calls.quiet_of_same (sign_as _ A HSA.out _) | exact quiet_same2 (sign_as _ A HSA.out _)))
              go_wp2_with fail
              go_roundw
              case rel =>
                refine ⟨j + 1, by omega, by omega, by go_num, fun h op h1 h2 => ?_, below_drewN hb nq⟩
                by_cases h3 : op < j
                · exact HN.out h op h1 h3
                · obtain rfl : op = j := by omega
                  exact HM.out
              case measure => simp [intOf]; omega
          · have qe : (er == 0) = false := by simpa using he0
            have HE0 := Lib.hid he0
            clear he0
            go_wp2_with fail
            go_quiet (fail)
            go_wp2_with fail
            go_roundw
            case rel => exact ⟨j + 1, by omega, by omega, by go_num, fun h => absurd h HE0.out, below_drewN hb nq⟩
            case measure => simp [intOf]; omega
        · have q5 : decide ((j : Int) ≤ 5) = false := by simp; omega
          have HJ := Lib.hid (show j = 6 by omega)
          have HO : Hid (BoundIs s.data.toList Bnd.zero false) := by
            rcases HPI.out with ⟨h, _⟩ | ⟨_, _, _, _, _, h⟩
            · have := HN.out h
              rw [HJ.out] at this
              exact bound_no2 this
            · exact bound_no1 h
          clear hlt6
          go_wp2_with fail
          exact bodyPost_ret (v := .tuple #[.agg #[.int .i64 0, .int .i64 0, .int .i64 0, .int .i64 0, .string ⟨#[]⟩], .bool false]) (by simp [results, Tryz.results96, go_sem, z0, z1, z2, z3, z4]) rfl (bound_out _ _ _ _ _ _ rfl HO.out (((((hW.setCell (Nat.le_refl _) _).setCell (Nat.le_refl _) _).setCell (Nat.le_refl _) _).setCell (Nat.le_refl _) _).setCell (Nat.le_refl _) _))
    · have q : decide ((k : Int) < (s.size : Int)) = false := by simp; omega
      have q' : decide (k < s.size) = false := by simp; omega
      clear he
      go_wp2_with fail
      refine (parse_any D _ (HE.out.alloc _) (by have := HDs.out; omega)).mono ?_
      rintro e w1 ⟨a, b, c, p, er, rfl, hpi, hb1⟩
      rw [HD.out] at hpi
      have hx1 := box_of hb1
      have HPI := Lib.hid hpi
      clear hb1 hpi
      go_wp2_with fail
      go_loopw [7] (fun i wr => BdRel (s.data.toList.takeWhile isSign) er w1 (.cells #[.int .i64 a, .int .i64 b, .int .i64 c, .string (S p)] 23) i wr) (fun i _ => 6 - (intOf i).toNat)
      case atStart => exact ⟨1, by omega, by omega, rfl, fun _ op h1 h2 => by omega, Below.refl _ _⟩
      case round =>
        obtain ⟨j, hj1, hj6, rfl, hno, hb⟩ := hrel
        have HN := Lib.hid hno
        clear hno
        have hxx := box_then hx1 (below_first hb)
        have hW := below_first hxx
        have d0 := box_cells hb 0
        have d1 := box_cells hb 1
        have d2 := box_cells hb 2
        have d3 := box_cells hb 3
        have z0 := box_cells hxx 0
        have z1 := box_cells hxx 1
        have z2 := box_cells hxx 2
        have z3 := box_cells hxx 3
        have z4 := box_cells hxx 4
        have f0 := box_free hxx 0
        have f1 := box_free hxx 1
        have f2 := box_free hxx 2
        have f3 := box_free hxx 3
        have f4 := box_free hxx 4
        simp at d0 d1 d2 d3 z0 z1 z2 z3 z4
        by_cases hlt6 : j < 6
        · have q5 : decide ((j : Int) ≤ 5) = true := by simp; omega
          by_cases he0 : er = 0
          · have qe : (er == 0) = true := by simpa using he0
            obtain ⟨A, hA⟩ : ∃ A, S (signL (j : Int)) = A := ⟨_, rfl⟩
            have HSA := Lib.hid hA
            by_cases hm : signL (j : Int) = s.data.toList.takeWhile isSign
            · have hAT : (A.toList == T.toList) = true := by
                rw [← hA, S_toList, Lib.toList_data, HT.out, hm]
                exact beq_self_eq_true _
              have HO : Hid (BoundIs s.data.toList ⟨(j : Int), ⟨a, b, c, S p⟩⟩ true) := by
                refine bound_yes hj1 hlt6 hm ?_
                rcases HPI.out with ⟨_, h⟩ | ⟨h, _⟩
                · exact h
                · rw [he0] at h; cases h
              clear hm hA he0 hlt6
              go_wp2_with fail
              go_quiet ((go_at_call 126; first | exact Calls.quiet_of_same (sign_as _ A HSA.out _) | exact quiet_same2 (sign_as _ A HSA.out _)))
              go_wp2_with fail
              exact bodyPost_ret (v := .tuple #[.agg #[.int .i64 (j : Int), .int .i64 a, .int .i64 b, .int .i64 c, .string (S p)], .bool true]) (by simp [results, Tryz.results96, go_sem, z0, z1, z2, z3, z4]) rfl (bound_out _ _ _ _ _ _ rfl HO.out (((((below_drewN hW nq).setCell (Nat.le_refl _) _).setCell (Nat.le_refl _) _).setCell (Nat.le_refl _) _).setCell (Nat.le_refl _) _ |>.setCell (Nat.le_refl _) _))
            · have hAT : (A.toList == T.toList) = false := by
                rw [← hA, S_toList, Lib.toList_data, HT.out]
                exact beq_eq_false_iff_ne.2 hm
              have HM := Lib.hid hm
              clear hm hA he0
              go_wp2_with fail
              go_quiet ((go_at_call 126; first | exact Calls.quiet_of_same (sign_as _ A HSA.out _) | exact quiet_same2 (sign_as _ A HSA.out _)))
              go_wp2_with fail
              go_roundw
              case rel =>
                refine ⟨j + 1, by omega, by omega, by go_num, fun h op h1 h2 => ?_, below_drewN hb nq⟩
                by_cases h3 : op < j
                · exact HN.out h op h1 h3
                · obtain rfl : op = j := by omega
                  exact HM.out
              case measure => simp [intOf]; omega
          · have qe : (er == 0) = false := by simpa using he0
            have HE0 := Lib.hid he0
            clear he0
            go_wp2_with fail
            go_quiet (fail)
            go_wp2_with fail
            go_roundw
            case rel => exact ⟨j + 1, by omega, by omega, by go_num, fun h => absurd h HE0.out, below_drewN hb nq⟩
            case measure => simp [intOf]; omega
        · have q5 : decide ((j : Int) ≤ 5) = false := by simp; omega
          have HJ := Lib.hid (show j = 6 by omega)
          have HO : Hid (BoundIs s.data.toList Bnd.zero false) := by
            rcases HPI.out with ⟨h, _⟩ | ⟨_, _, _, _, _, h⟩
            · have := HN.out h
              rw [HJ.out] at this
              exact bound_no2 this
            · exact bound_no1 h
          clear hlt6
          go_wp2_with fail
          exact bodyPost_ret (v := .tuple #[.agg #[.int .i64 0, .int .i64 0, .int .i64 0, .int .i64 0, .string ⟨#[]⟩], .bool false]) (by simp [results, Tryz.results96, go_sem, z0, z1, z2, z3, z4]) rfl (bound_out _ _ _ _ _ _ rfl HO.out (((((hW.setCell (Nat.le_refl _) _).setCell (Nat.le_refl _) _).setCell (Nat.le_refl _) _).setCell (Nat.le_refl _) _).setCell (Nat.le_refl _) _))
end Go.Proofs.YtjjpngdbbjeaiaaGreatDoor
