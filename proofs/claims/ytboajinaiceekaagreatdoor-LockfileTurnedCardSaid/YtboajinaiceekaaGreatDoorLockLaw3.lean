/- Locks: one byte another one: the law, walked. -/
import Derived.Test.YtboajinaiceekaaGreatDoorLockLaw1
import Derived.Test.YtboajinaiceekaaGreatDoorLockLaw2
namespace Go.Proofs.YtboajinaiceekaaGreatDoor
open Go.RowKit
set_option maxRecDepth 100000 in
set_option maxHeartbeats 4000000 in
theorem turned_law (v : Value) (l : List Pik) (at' : Int) (by' : UInt8) (w : World) (hv : Piks w v l) (hE : Env w) (h0 : -9223372036854775808 ≤ at') (h1 : at' ≤ 9223372036854775807) :
    Calls Tryz.prog 7 #[v, .int .i64 at', .int .u8 (by'.toNat : Int)] w fun e w' => e = .returned (.bool true) ∧ Below w.heap.size w w' := by
  obtain ⟨a0, cap0, rfl⟩ := hv.len
  have HE := Lib.hid hE
  obtain ⟨li, hli⟩ : ∃ b, lightP l = b := ⟨_, rfl⟩
  have HLi := fun w h => light_any (.slice a0 l.length cap0) l w h
  rw [hli] at HLi
  have HLi := Lib.hid (HLi w hv)
  have HAw := Lib.hid (fun W hW => awake_any W hW)
  cases li
  · clear hv hE hli
    go_enter Tryz.func7, Tryz.ntmps7
    go_wp2_with fail
    refine HLi.out.mono ?_
    rintro e w1 ⟨rfl, rfl⟩
    go_wp2_with fail
    refine (HAw.out _ HE.out).mono ?_
    rintro e w2 ⟨rfl, hb2⟩
    go_wp2_with fail
    go_ret
    exact ⟨rfl, hb2⟩
  have hsz := (lightP_sz hli).2
  cases hmb : mayB l
  · have HSh := Lib.hid (lshow_as (.slice a0 l.length cap0) l ⟨#[]⟩ 370 (by unfold lockShow; rw [hmb]; rfl) w hv hE hsz)
    clear hv hE hli hsz hmb
    go_enter Tryz.func7, Tryz.ntmps7
    go_wp2_with fail
    refine HLi.out.mono ?_
    rintro e w1 ⟨rfl, rfl⟩
    go_wp2_with fail
    refine HSh.out.mono ?_
    rintro e w2 ⟨rfl, hb2⟩
    go_wp2_with fail
    refine (HAw.out _ (HE.out.below hb2)).mono ?_
    rintro e w3 ⟨rfl, hb3⟩
    have hb4 := below_then hb2 hb3
    go_wp2_with fail
    go_ret
    exact ⟨rfl, hb4⟩
  obtain ⟨A, hA⟩ : ∃ A, S (lockL l) = A := ⟨_, rfl⟩
  have hAl : A.data.toList = lockL l := by rw [← hA]; rfl
  have hAs : A.size ≤ 3000 := by rw [Lib.size_eq, hAl]; exact lockL_len hmb
  have HSh := Lib.hid (lshow_as (.slice a0 l.length cap0) l A 0 (by unfold lockShow; rw [hmb, hAl]; rfl) w hv hE hsz)
  have HAl := Lib.hid hAl
  have HMb := Lib.hid hmb
  clear hv hE hli hsz hmb hA hAl
  by_cases hn : at' < 0
  · have q1 : decide (at' < 0) = true := decide_eq_true hn
    clear hn
    go_enter Tryz.func7, Tryz.ntmps7
    go_wp2_with fail
    refine HLi.out.mono ?_
    rintro e w1 ⟨rfl, rfl⟩
    go_wp2_with fail
    refine HSh.out.mono ?_
    rintro e w2 ⟨rfl, hb2⟩
    go_wp2_with fail
    refine (HAw.out _ (HE.out.below hb2)).mono ?_
    rintro e w3 ⟨rfl, hb3⟩
    have hb4 := below_then hb2 hb3
    go_wp2_with fail
    go_ret
    exact ⟨rfl, hb4⟩
  obtain ⟨a, rfl⟩ := Int.eq_ofNat_of_zero_le (show 0 ≤ at' by omega)
  have q1 : decide ((a : Int) < 0) = false := decide_eq_false hn
  by_cases hge : A.size ≤ a
  · have q2 : decide ((A.size : Int) ≤ (a : Int)) = true := decide_eq_true (by omega)
    have q2' : decide (A.size ≤ a) = true := decide_eq_true hge
    clear hn hge
    go_enter Tryz.func7, Tryz.ntmps7
    go_wp2_with fail
    refine HLi.out.mono ?_
    rintro e w1 ⟨rfl, rfl⟩
    go_wp2_with fail
    refine HSh.out.mono ?_
    rintro e w2 ⟨rfl, hb2⟩
    go_wp2_with fail
    refine (HAw.out _ (HE.out.below hb2)).mono ?_
    rintro e w3 ⟨rfl, hb3⟩
    have hb4 := below_then hb2 hb3
    go_wp2_with fail
    go_ret
    exact ⟨rfl, hb4⟩
  have q2 : decide ((A.size : Int) ≤ (a : Int)) = false := decide_eq_false (by omega)
  have q2' : decide (A.size ≤ a) = false := decide_eq_false hge
  have hal : a < A.size := by omega
  by_cases hby : by' = 0
  · have q3 : ((by'.toNat : Int) == 0) = true := by rw [hby]; rfl
    clear hn hge hby
    go_enter Tryz.func7, Tryz.ntmps7
    go_wp2_with fail
    refine HLi.out.mono ?_
    rintro e w1 ⟨rfl, rfl⟩
    go_wp2_with fail
    refine HSh.out.mono ?_
    rintro e w2 ⟨rfl, hb2⟩
    go_wp2_with fail
    refine (HAw.out _ (HE.out.below hb2)).mono ?_
    rintro e w3 ⟨rfl, hb3⟩
    have hb4 := below_then hb2 hb3
    go_wp2_with fail
    go_ret
    exact ⟨rfl, hb4⟩
  have q3 : ((by'.toNat : Int) == 0) = false := by
    rw [beq_eq_false_iff_ne]
    intro h
    exact hby (UInt8.toNat_inj.1 (show by'.toNat = 0 by omega))
  obtain ⟨x, hx⟩ : ∃ x, A[a] = x := ⟨_, rfl⟩
  have hxg : A.data.toList[a]? = some x := by rw [← hx]; exact byte_get A a hal
  obtain ⟨y, hy⟩ : ∃ y, x ^^^ by' = y := ⟨_, rfl⟩
  have hxor : bits .xor .u8 (x.toNat : Int) (by'.toNat : Int) = (y.toNat : Int) := by
    rw [u8_xor_nat _ _ x.toNat_lt by'.toNat_lt, ← hy, UInt8.toNat_xor]
  have hcv := fun W => Lib.run_convert_string_bytes (P := Tryz.prog) W 9 39 5 A (u := .string) Tryz.underlying9 Tryz.underlying39 Tryz.underlying5
  have i0 : (0 : Int) ≤ (a : Int) := by omega
  have i1 : (a : Int) < (A.size : Int) := by omega
  have hcell : ∀ W, (Lib.bytesWorld W 5 A).cell? ⟨W.heap.size, a, none⟩ = some (.int .u8 (x.toNat : Int)) := fun W => by
    rw [Lib.bytesWorld_cell W _ A a hal, List.getD_eq_getElem?_getD, hxg]; rfl
  have hfrz : ∀ W, (Lib.bytesWorld W 5 A).frozen? ⟨W.heap.size, a, none⟩ = false := fun W => by
    have hs : a < (Lib.bytesCells W 5 A).size := by unfold Lib.bytesCells; rw [Array.size_append, Array.size_map]; exact Nat.lt_of_lt_of_le hal (Nat.le_add_right _ _)
    simp [World.frozen?, Lib.bytesWorld_at_new]
    omega
  obtain ⟨B, hB⟩ : ∃ B, A.data.toList.set a y = B := ⟨_, rfl⟩
  have hBl : B.length = A.size := by rw [← hB, List.length_set, ← Lib.size_eq]
  obtain ⟨B0, hB0⟩ : ∃ B0, S B = B0 := ⟨_, rfl⟩
  obtain ⟨B1, hB1⟩ : ∃ B1, S (B.drop a) = B1 := ⟨_, rfl⟩
  obtain ⟨C, hC⟩ : ∃ C, A.extract 0 a = C := ⟨_, rfl⟩
  have hB0s : B0.size ≤ 100000 := by rw [← hB0, S_size, hBl]; omega
  have hB1s : B1.size ≤ 3000 := by rw [← hB1, S_size, List.length_drop, hBl]; omega
  have hCs : C.size ≤ 100000 := by rw [← hC, ByteArray.size_extract]; omega
  have hxy : x ≠ y := by
    intro e
    rw [← hy] at e
    have h2 : by' = 0 := by
      have h3 : x ^^^ (x ^^^ by') = x ^^^ x := by rw [← e]
      rw [← UInt8.xor_assoc, UInt8.xor_self, UInt8.zero_xor] at h3
      exact h3
    exact hby h2
  have HAsp : A.data.toList = A.data.toList.take a ++ x :: A.data.toList.drop (a + 1) := by
    have h2 : a < A.data.toList.length := by rw [← Lib.size_eq]; exact hal
    have h3 := List.getElem?_eq_getElem h2
    rw [hxg] at h3
    injection h3 with h3
    rw [h3, ← List.drop_eq_getElem_cons h2, List.take_append_drop]
  have HBsp : B = A.data.toList.take a ++ y :: A.data.toList.drop (a + 1) := by
    have h2 : a < A.data.toList.length := by rw [← Lib.size_eq]; exact hal
    rw [← hB, List.set_eq_take_append_cons_drop, if_pos h2]
  have HN0 : Hid (LockIs B0.data.toList [] 370) := by
    show LockIs _ _ _
    rw [← hB0, S_data, HBsp]
    exact turned_no (l := l) (by rw [← HAl.out]; exact HAsp) hxy
  have HN1 : Hid (LockIs C.data.toList [] 370) := by
    show LockIs _ _ _
    rw [← hC, ext_mid, HAl.out, List.drop_zero]
    exact cut_no HMb.out (by rw [← HAl.out, ← Lib.size_eq]; exact hal)
  have HN2 : Hid (LockIs (A ++ B1).data.toList [] 370) := by
    show LockIs _ _ _
    have e : (A ++ B1).data.toList = lockL l ++ B.drop a := by rw [← hB1, ← HAl.out]; simp [S]
    rw [e]
    refine behind_no HMb.out fun h => ?_
    have := congrArg List.length h
    rw [List.length_drop, hBl, List.length_nil] at this
    omega
  have hWc : ∀ W : World, ∀ j, j < B.length → ((Lib.bytesWorld W 5 A).setCell ⟨W.heap.size, a, none⟩ (.int .u8 (y.toNat : Int))).cell? ⟨W.heap.size, j, none⟩ = some (.int .u8 ((B.getD j 0).toNat : Int)) := fun W j hj => by
    rw [← hB]; exact turned_cell W _ A a hal y j (by rw [← hBl]; exact hj)
  have hbc : ∀ W : World, Below W.heap.size W ((Lib.bytesWorld W 5 A).setCell ⟨W.heap.size, a, none⟩ (.int .u8 (y.toNat : Int))) := fun W => (below_bytesWorld W _ A).setCell (p := ⟨W.heap.size, a, none⟩) (Nat.le_refl _) _
  have hszc : ∀ W : World, W.heap.size < ((Lib.bytesWorld W 5 A).setCell ⟨W.heap.size, a, none⟩ (.int .u8 (y.toNat : Int))).heap.size := fun W => by
    have := cell_lt (hWc W a (by rw [hBl]; exact hal))
    exact this
  have hc0 : ∀ (W : World) (cap : Nat), (convert 39 9 (.slice (some ⟨W.heap.size, 0, none⟩) A.size cap)).run Tryz.prog ((Lib.bytesWorld W 5 A).setCell ⟨W.heap.size, a, none⟩ (.int .u8 (y.toNat : Int))) = .ok (.string B0) ((Lib.bytesWorld W 5 A).setCell ⟨W.heap.size, a, none⟩ (.int .u8 (y.toNat : Int))) := fun W cap => by
    have := turned_conv_at (P := Tryz.prog) Tryz.underlying39 Tryz.underlying5 Tryz.underlying9 _ W.heap.size B 0 A.size (by rw [hBl]; rfl) (hWc W) cap
    rw [List.drop_zero, hB0] at this
    exact this
  have hsl : ∀ W, (Instr.slice 9 (.string A) none (some (.int .i64 (a : Int))) none).run Tryz.prog W = .ok (.string C) W := fun W => by
    have := run_slice_string_to_if (P := Tryz.prog) W 9 A .i64 (a : Int) Tryz.underlying9
    rw [if_pos ⟨i0, by omega⟩, Int.toNat_natCast, hC] at this
    exact this
  have r1 : ∀ W, (Op.stringOp .add A B1).run Tryz.prog W = .ok (.string (A ++ B1)) W := fun W => run_string_add_sum W _ _ (by omega)
  have HP0 := Lib.hid (fun W hW => lparse_any B0 W hW hB0s)
  have HP1 := Lib.hid (fun W hW => lparse_any C W hW hCs)
  have HP2 := Lib.hid (fun W hW => lparse_any (A ++ B1) W hW (by rw [ByteArray.size_append]; omega))
  have HWc := Lib.hid hWc
  have HBl := Lib.hid hBl
  have HB1 := Lib.hid hB1
  have Hbc := Lib.hid hbc
  have Hszc := Lib.hid hszc
  clear hn hge hby hWc hB hBl hB0 hB1 hC hxy HAsp HBsp hx hxg hy hB0s hB1s hCs hbc hszc
  go_enter Tryz.func7, Tryz.ntmps7
  go_wp2_with fail
  refine HLi.out.mono ?_
  rintro e w1 ⟨rfl, rfl⟩
  go_wp2_with fail
  refine HSh.out.mono ?_
  rintro e w2 ⟨rfl, hb2⟩
  have hb3 := below_then hb2 (Hbc.out w2)
  go_wp2_with fail
  refine (HP0.out _ (HE.out.below hb3)).mono ?_
  rintro e w3 ⟨v3, p3, er3, rfl, _, hl3, _, hb4⟩
  obtain ⟨rfl, rfl⟩ := hl3.uniq HN0.out
  have hb5 := below_then hb3 hb4
  have hcl : ∀ j, j < B.length → w3.cell? ⟨w2.heap.size, j, none⟩ = some (.int .u8 ((B.getD j 0).toNat : Int)) := fun j hj => (hb4.cell (p := ⟨w2.heap.size, j, none⟩) (Hszc.out w2)).trans (HWc.out w2 j hj)
  have hsz3 : w2.heap.size < w3.heap.size := Nat.lt_of_lt_of_le (Hszc.out w2) hb4.size
  have HCl := Lib.hid hcl
  clear hcl hb4 hl3
  go_wp2_with fail
  refine (HP1.out _ (HE.out.below hb5)).mono ?_
  rintro e w4 ⟨v4, p4, er4, rfl, _, hl4, _, hb6⟩
  obtain ⟨rfl, rfl⟩ := hl4.uniq HN1.out
  have hb7 := below_then hb5 hb6
  have hc1 : ∀ cap : Nat, (convert 39 9 (.slice (some ⟨w2.heap.size, a, none⟩) (A.size - a) cap)).run Tryz.prog w4 = .ok (.string B1) w4 := fun cap => by
    have := turned_conv_at (P := Tryz.prog) Tryz.underlying39 Tryz.underlying5 Tryz.underlying9 w4 w2.heap.size B a (A.size - a) (by rw [HBl.out]) (fun j hj => (hb6.cell (p := ⟨w2.heap.size, j, none⟩) hsz3).trans (HCl.out j hj)) cap
    rw [HB1.out] at this
    exact this
  have hg2 := grownCap_ge w2 A.size 0 5
  have hg3 : ¬ grownCap w2 A.size 0 5 = a := by omega
  have hg4 : ¬ a = grownCap w2 A.size 0 5 := by omega
  have hg5 : a < grownCap w2 A.size 0 5 := by omega
  clear hb6 hl4
  go_wp2_with fail
  refine (HP2.out _ (HE.out.below hb7)).mono ?_
  rintro e w5 ⟨v5, p5, er5, rfl, _, hl5, _, hb8⟩
  obtain ⟨rfl, rfl⟩ := hl5.uniq HN2.out
  have hb9 := below_then hb7 hb8
  clear hb8 hl5
  go_wp2_with fail
  refine (HAw.out _ (HE.out.below hb9)).mono ?_
  rintro e w6 ⟨rfl, hb10⟩
  have hb11 := below_then hb9 hb10
  go_wp2_with fail
  go_ret
  exact ⟨rfl, hb11⟩
theorem turned_wf (v : Value) (l : List Pik) (a b : Int) (w : World) (hv : Piks w v l) (hE : Env w) (h1 : (Lit.int .i64 a).wf = true) (h2 : (Lit.int .u8 b).wf = true) :
    Calls Tryz.prog 7 #[v, .int .i64 a, .int .u8 b] w fun e w' => e = .returned (.bool true) ∧ Below w.heap.size w w' := by
  unfold Lit.wf at h1 h2
  rw [Bool.and_eq_true, decide_eq_true_eq, decide_eq_true_eq] at h1 h2
  rw [show IntKind.i64.min = -9223372036854775808 by decide, show IntKind.i64.max = 9223372036854775807 by decide] at h1
  rw [show IntKind.u8.min = 0 by decide, show IntKind.u8.max = 255 by decide] at h2
  obtain ⟨c, rfl⟩ := Int.eq_ofNat_of_zero_le h2.1
  have hc : c < 256 := by omega
  have := turned_law v l a (UInt8.ofNat c) w hv hE h1.1 h1.2
  rw [show (UInt8.ofNat c).toNat = c by simp; omega] at this
  exact this
end Go.Proofs.YtboajinaiceekaaGreatDoor
