/- The reference of layer 5: Near: a walk. -/
import Derived.Test.YtjjpngdbbjeaiaaGreatDoorRanRef1
import Derived.Test.YtjjpngdbbjeaiaaGreatDoorRanProg2
namespace Go.Proofs.YtjjpngdbbjeaiaaGreatDoor
open Go.RowKit
theorem near_fin_at (w w1 : World) (B : Nat) (hB : B = w1.heap.size) (bs cs : List Bnd) (h : bs = cs) (hb : Below w.heap.size w w1) (T : TypeId) (n cap : Nat) (os : Array Value) (ho : os = (cs.flatMap Bnd.cells).toArray) (hn : n = cs.length) (h0 : 0 < cs.length) (hm : cs.length ≤ maxLen) :
    ∃ x, Ending.returned (.slice (some ⟨B, 0, none⟩) n cap) = .returned x ∧ Bnds (w1.alloc (.cells os T)) x bs ∧ (∃ a cap, x = .slice a bs.length cap) ∧ Below w.heap.size w (w1.alloc (.cells os T)) ∧ FreshV w.heap.size x := by
  subst hB
  exact near_fin2 w w1 bs cs h hb T n cap os ho hn h0 hm
theorem num_bounds {v : V4} (h : v.ok = true) : 0 ≤ v.a ∧ v.a ≤ 999999 ∧ 0 ≤ v.b ∧ v.b ≤ 999999 := by
  have := verOk_bounds h
  omega
theorem next_zero {v : V4} (h : v.ok = true) (hz : v.a = 0) : v.next = ⟨0, v.b + 1, 0, ⟨#[]⟩⟩ ∧ v.next.ok = decide (v.b + 1 ≤ 999999) := by
  have hb := num_bounds h
  have e : v.next = ⟨0, v.b + 1, 0, ⟨#[]⟩⟩ := by unfold V4.next; rw [if_pos hz]
  refine ⟨e, ?_⟩
  rw [e]
  show verOk 0 (v.b + 1) 0 [] = _
  have : decide (0 ≤ v.b + 1) = true := decide_eq_true (by omega)
  simp [verOk, numOk, preOk, this]
theorem next_else {v : V4} (h : v.ok = true) (hz : v.a ≠ 0) : v.next = ⟨v.a + 1, 0, 0, ⟨#[]⟩⟩ ∧ v.next.ok = decide (v.a + 1 ≤ 999999) := by
  have hb := num_bounds h
  have e : v.next = ⟨v.a + 1, 0, 0, ⟨#[]⟩⟩ := by unfold V4.next; rw [if_neg hz]
  refine ⟨e, ?_⟩
  rw [e]
  show verOk (v.a + 1) 0 0 [] = _
  have : decide (0 ≤ v.a + 1) = true := decide_eq_true (by omega)
  simp [verOk, numOk, preOk, this]
set_option maxRecDepth 100000 in
set_option maxHeartbeats 2000000 in
theorem rnear_new (v : V4) (w : World) (hs : v.p.size ≤ 9223372036854775807) :
    Calls Tryz.prog 97 #[.agg #[.int .i64 v.a, .int .i64 v.b, .int .i64 v.c, .string v.p]] w fun e w' => ∃ x, e = .returned x ∧ Bnds w' x (near v) ∧ (∃ a cap, x = .slice a (near v).length cap) ∧ Below w.heap.size w w' ∧ FreshV w.heap.size x := by
  by_cases hok : v.ok = true
  case neg =>
    rw [Bool.not_eq_true] at hok
    have hr : verErr v.a v.b v.c v.p.data.toList = 40 := by rw [V4.ok_err, hok]; rfl
    have HR := Lib.hid hr
    have HN : Hid (near v = [⟨3, v⟩]) := by show _ = _; unfold near; rw [hok]; rfl
    clear hr hok
    go_enter Tryz.func97, Tryz.ntmps97
    go_wp2_with fail
    refine (checkRQ_as v 40 HR.out _ hs).mono ?_
    rintro e w1 ⟨rfl, hb1⟩
    have hx := box_of hb1
    have hW := below_first hx
    have c0 := box_cells hx 0
    have c1 := box_cells hx 1
    have c2 := box_cells hx 2
    have c3 := box_cells hx 3
    simp at c0 c1 c2 c3
    clear hb1
    go_wp2_with fail
    go_ret
    exact near_fin2 w w1 _ _ HN.out hW _ _ _ _ rfl rfl (by simp) (by simp [maxLen])
  have hr : verErr v.a v.b v.c v.p.data.toList = 0 := by rw [V4.ok_err, hok]; rfl
  have HR := Lib.hid hr
  have HO := Lib.hid hok
  have hbd := num_bounds hok
  obtain ⟨k1, k1', k2, k2'⟩ := hbd
  clear hr hok
  by_cases hz : v.a = 0
  · have q0 : (v.a == 0) = true := by simpa using hz
    by_cases hf : v.b + 1 ≤ 999999
    · have HNX := Lib.hid (next_zero HO.out hz).1
      have HF : Hid (near v = [⟨4, v⟩, ⟨1, ⟨0, v.b + 1, 0, ⟨#[]⟩⟩⟩]) := by
        show _ = _
        unfold near
        rw [HO.out, (next_zero HO.out hz).2, decide_eq_true hf, HNX.out]; rfl
      have qf : decide (v.b + 1 ≤ 999999) = true := decide_eq_true hf
      clear hf hz HNX
      go_enter Tryz.func97, Tryz.ntmps97
      go_wp2_with fail
      refine (checkRQ_as v 0 HR.out _ hs).mono ?_
      rintro e w1 ⟨rfl, hb1⟩
      have hx := box_of hb1
      have hW := below_first hx
      have c0 := box_cells hx 0
      have c1 := box_cells hx 1
      have c2 := box_cells hx 2
      have c3 := box_cells hx 3
      simp at c0 c1 c2 c3
      have hB := cell_lt c0
      clear hb1
      go_wp2_with fail
      go_ret
      exact near_fin_at w _ (w1.heap.size + 1) (by simp) _ _ HF.out (hW.alloc hW.size (.cells #[.int .i64 (0), .int .i64 (v.b + 1), .int .i64 0, .string ⟨#[]⟩] 23)) _ _ _ _ rfl rfl (by simp) (by simp [maxLen])
    · have HNX := Lib.hid (next_zero HO.out hz).1
      have HF : Hid (near v = [⟨3, v⟩]) := by
        show _ = _
        unfold near
        rw [HO.out, (next_zero HO.out hz).2, decide_eq_false hf]; rfl
      have qf : decide (v.b + 1 ≤ 999999) = false := decide_eq_false hf
      clear hf hz HNX
      go_enter Tryz.func97, Tryz.ntmps97
      go_wp2_with fail
      refine (checkRQ_as v 0 HR.out _ hs).mono ?_
      rintro e w1 ⟨rfl, hb1⟩
      have hx := box_of hb1
      have hW := below_first hx
      have c0 := box_cells hx 0
      have c1 := box_cells hx 1
      have c2 := box_cells hx 2
      have c3 := box_cells hx 3
      simp at c0 c1 c2 c3
      have hB := cell_lt c0
      clear hb1
      go_wp2_with fail
      go_ret
      exact near_fin_at w _ (w1.heap.size + 1) (by simp) _ _ HF.out (hW.alloc hW.size (.cells #[.int .i64 (0), .int .i64 (v.b + 1), .int .i64 0, .string ⟨#[]⟩] 23)) _ _ _ _ rfl rfl (by simp) (by simp [maxLen])
  · have q0 : (v.a == 0) = false := by simpa using hz
    by_cases hf : v.a + 1 ≤ 999999
    · have HNX := Lib.hid (next_else HO.out hz).1
      have HF : Hid (near v = [⟨4, v⟩, ⟨1, ⟨v.a + 1, 0, 0, ⟨#[]⟩⟩⟩]) := by
        show _ = _
        unfold near
        rw [HO.out, (next_else HO.out hz).2, decide_eq_true hf, HNX.out]; rfl
      have qf : decide (v.a + 1 ≤ 999999) = true := decide_eq_true hf
      clear hf hz HNX
      go_enter Tryz.func97, Tryz.ntmps97
      go_wp2_with fail
      refine (checkRQ_as v 0 HR.out _ hs).mono ?_
      rintro e w1 ⟨rfl, hb1⟩
      have hx := box_of hb1
      have hW := below_first hx
      have c0 := box_cells hx 0
      have c1 := box_cells hx 1
      have c2 := box_cells hx 2
      have c3 := box_cells hx 3
      simp at c0 c1 c2 c3
      have hB := cell_lt c0
      clear hb1
      go_wp2_with fail
      go_ret
      exact near_fin_at w _ (w1.heap.size + 1) (by simp) _ _ HF.out (hW.alloc hW.size (.cells #[.int .i64 (v.a + 1), .int .i64 (0), .int .i64 0, .string ⟨#[]⟩] 23)) _ _ _ _ rfl rfl (by simp) (by simp [maxLen])
    · have HNX := Lib.hid (next_else HO.out hz).1
      have HF : Hid (near v = [⟨3, v⟩]) := by
        show _ = _
        unfold near
        rw [HO.out, (next_else HO.out hz).2, decide_eq_false hf]; rfl
      have qf : decide (v.a + 1 ≤ 999999) = false := decide_eq_false hf
      clear hf hz HNX
      go_enter Tryz.func97, Tryz.ntmps97
      go_wp2_with fail
      refine (checkRQ_as v 0 HR.out _ hs).mono ?_
      rintro e w1 ⟨rfl, hb1⟩
      have hx := box_of hb1
      have hW := below_first hx
      have c0 := box_cells hx 0
      have c1 := box_cells hx 1
      have c2 := box_cells hx 2
      have c3 := box_cells hx 3
      simp at c0 c1 c2 c3
      have hB := cell_lt c0
      clear hb1
      go_wp2_with fail
      go_ret
      exact near_fin_at w _ (w1.heap.size + 1) (by simp) _ _ HF.out (hW.alloc hW.size (.cells #[.int .i64 (v.a + 1), .int .i64 (0), .int .i64 0, .string ⟨#[]⟩] 23)) _ _ _ _ rfl rfl (by simp) (by simp [maxLen])
theorem rnear_any (v : V4) (w : World) (hs : v.p.size ≤ 9223372036854775807) :
    Calls Tryz.prog 97 #[.agg #[.int .i64 v.a, .int .i64 v.b, .int .i64 v.c, .string v.p]] w fun e w' => ∃ x, e = .returned x ∧ Bnds w' x (near v) ∧ (∃ a cap, x = .slice a (near v).length cap) ∧ Below w.heap.size w w' :=
  (rnear_new v w hs).mono fun _ _ ⟨x, h1, h2, h3, h4, _⟩ => ⟨x, h1, h2, h3, h4⟩
end Go.Proofs.YtjjpngdbbjeaiaaGreatDoor
