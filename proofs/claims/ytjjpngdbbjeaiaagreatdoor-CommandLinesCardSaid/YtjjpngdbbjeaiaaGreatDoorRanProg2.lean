/- The program's ranges: Near: a walk. -/
import Derived.Test.YtjjpngdbbjeaiaaGreatDoorRanProg1
namespace Go.Proofs.YtjjpngdbbjeaiaaGreatDoor
open Go.RowKit
theorem V4.ok_err {v : V4} : verErr v.a v.b v.c v.p.data.toList = if v.ok then 0 else 40 := rfl
theorem two_cells {w w1 : World} {c d : Array Value} {S T : TypeId} (h : Below ((w.alloc (.cells c S)).alloc (.cells d T)).heap.size ((w.alloc (.cells c S)).alloc (.cells d T)) w1) (j : Nat) :
    w1.cell? ⟨w.heap.size, j, none⟩ = c[j]? ∧ w1.cell? ⟨w.heap.size + 1, j, none⟩ = d[j]? := by
  refine ⟨box_cells (box_of (below_first (box_of h))) j, ?_⟩
  have := box_cells (box_of h) j
  simpa using this
theorem two_below {w w1 : World} {o p : Obj} (h : Below ((w.alloc o).alloc p).heap.size ((w.alloc o).alloc p) w1) : Below w.heap.size w w1 :=
  below_first (box_of (below_first (box_of h)))
theorem near_fin2 (w w1 : World) (bs cs : List Bnd) (h : bs = cs) (hb : Below w.heap.size w w1) (T : TypeId) (n cap : Nat) (os : Array Value) (ho : os = (cs.flatMap Bnd.cells).toArray) (hn : n = cs.length) (h0 : 0 < cs.length) (hm : cs.length ≤ maxLen) :
    ∃ x, Ending.returned (.slice (some ⟨w1.heap.size, 0, none⟩) n cap) = .returned x ∧ Bnds (w1.alloc (.cells os T)) x bs ∧ (∃ a cap, x = .slice a bs.length cap) ∧ Below w.heap.size w (w1.alloc (.cells os T)) ∧ FreshV w.heap.size x := by
  subst h
  exact ⟨_, rfl, bnds_new _ _ _ _ _ _ _ rfl ho hn h0 hm, ⟨_, _, by rw [hn]⟩, hb.alloc hb.size _, FreshV.mk hb.size⟩
theorem near_fin (w w1 : World) (bs cs : List Bnd) (h : bs = cs) (hb : Below w.heap.size w w1) (T : TypeId) (n cap : Nat) (os : Array Value) (ho : os = (cs.flatMap Bnd.cells).toArray) (hn : n = cs.length) (h0 : 0 < cs.length) (hm : cs.length ≤ maxLen) :
    ∃ x, Ending.returned (.slice (some ⟨w1.heap.size, 0, none⟩) n cap) = .returned x ∧ Bnds (w1.alloc (.cells os T)) x bs ∧ (∃ a cap, x = .slice a bs.length cap) ∧ Below w.heap.size w (w1.alloc (.cells os T)) := by
  obtain ⟨x, h1, h2, h3, h4, _⟩ := near_fin2 w w1 bs cs h hb T n cap os ho hn h0 hm
  exact ⟨x, h1, h2, h3, h4⟩
set_option maxRecDepth 100000 in
set_option maxHeartbeats 2000000 in
theorem near_new (v : V4) (w : World) (hE : Env w) (hs : v.p.size ≤ 9223372036854775807) :
    Calls Tryz.prog 95 #[.agg #[.int .i64 v.a, .int .i64 v.b, .int .i64 v.c, .string v.p]] w fun e w' => ∃ x, e = .returned x ∧ Bnds w' x (near v) ∧ (∃ a cap, x = .slice a (near v).length cap) ∧ Below w.heap.size w w' ∧ FreshV w.heap.size x := by
  have HE := Lib.hid hE
  clear hE
  by_cases hok : v.ok = true
  · have hr : verErr v.a v.b v.c v.p.data.toList = 0 := by rw [V4.ok_err, hok]; rfl
    have hbd := verOk_bounds hok
    have HR := Lib.hid hr
    have HO := Lib.hid hok
    have k1 : 0 ≤ v.a ∧ v.a ≤ 999999 := by omega
    have k2 : 0 ≤ v.b ∧ v.b ≤ 999999 := by omega
    obtain ⟨k1, k1'⟩ := k1
    obtain ⟨k2, k2'⟩ := k2
    clear hr hok hbd
    by_cases hz : v.a = 0
    · have q0 : (v.a == 0) = true := by simpa using hz
      have HNX : Hid (v.next = ⟨0, (v.b + 1), 0, ⟨#[]⟩⟩) := by show _ = _; unfold V4.next; rw [if_pos hz]
      obtain ⟨r, hrn⟩ : ∃ r, verErr 0 (v.b + 1) 0 [] = r := ⟨_, rfl⟩
      have HRN := Lib.hid hrn
      clear hrn hz
      go_enter Tryz.func95, Tryz.ntmps95
      go_wp2_with fail
      refine (checkQ_as v 0 HR.out _ ((HE.out.alloc _).alloc _) hs).mono ?_
      rintro e w1 ⟨rfl, hb1⟩
      obtain ⟨c0, d0⟩ := two_cells hb1 0
      obtain ⟨c1, d1⟩ := two_cells hb1 1
      obtain ⟨c2, d2⟩ := two_cells hb1 2
      obtain ⟨c3, d3⟩ := two_cells hb1 3
      have hW := two_below hb1
      have hB := cell_lt c0
      have hB2 := cell_lt d0
      simp at c0 c1 c2 c3 d0 d1 d2 d3
      clear hb1
      go_wp2_with fail
      refine (checkQ_as ⟨0, (v.b + 1), 0, ⟨#[]⟩⟩ r HRN.out _ (HE.out.below hW) (show (⟨#[]⟩ : ByteArray).size ≤ _ by decide)).mono ?_
      rintro e w2 ⟨rfl, hb2⟩
      have c0 := (hb2.cell (p := ⟨w.heap.size, 0, none⟩) hB).trans c0
      have c1 := (hb2.cell (p := ⟨w.heap.size, 1, none⟩) hB).trans c1
      have c2 := (hb2.cell (p := ⟨w.heap.size, 2, none⟩) hB).trans c2
      have c3 := (hb2.cell (p := ⟨w.heap.size, 3, none⟩) hB).trans c3
      have d0 := (hb2.cell (p := ⟨w.heap.size + 1, 0, none⟩) hB2).trans d0
      have d1 := (hb2.cell (p := ⟨w.heap.size + 1, 1, none⟩) hB2).trans d1
      have d2 := (hb2.cell (p := ⟨w.heap.size + 1, 2, none⟩) hB2).trans d2
      have d3 := (hb2.cell (p := ⟨w.heap.size + 1, 3, none⟩) hB2).trans d3
      have hW2 := below_then hW hb2
      clear hb2 hW
      by_cases hr : r = 0
      · have hq : (r != 0) = false := by simpa using hr
        have HF : Hid (near v = [⟨4, v⟩, ⟨1, ⟨0, (v.b + 1), 0, ⟨#[]⟩⟩⟩]) := by
          show _ = _
          unfold near
          have h : v.next.ok = true := by
            rw [HNX.out]
            cases h : (⟨0, (v.b + 1), 0, ⟨#[]⟩⟩ : V4).ok
            · have := HRN.out
              have h2 : verErr 0 (v.b + 1) 0 [] = if (⟨0, (v.b + 1), 0, ⟨#[]⟩⟩ : V4).ok then 0 else 40 := V4.ok_err (v := ⟨0, (v.b + 1), 0, ⟨#[]⟩⟩)
              rw [h2, h, hr] at this; cases this
            · rfl
          rw [HO.out, h, HNX.out]; rfl
        clear hr
        go_wp2_with fail
        go_ret
        exact near_fin2 w w2 _ _ HF.out hW2 _ _ _ _ rfl rfl (by simp) (by simp [maxLen])
      · have hq : (r != 0) = true := by simpa using hr
        have HF : Hid (near v = [⟨3, v⟩]) := by
          show _ = _
          unfold near
          have h : v.next.ok = false := by
            rw [HNX.out]
            cases h : (⟨0, (v.b + 1), 0, ⟨#[]⟩⟩ : V4).ok
            · rfl
            · have := HRN.out
              have h2 : verErr 0 (v.b + 1) 0 [] = if (⟨0, (v.b + 1), 0, ⟨#[]⟩⟩ : V4).ok then 0 else 40 := V4.ok_err (v := ⟨0, (v.b + 1), 0, ⟨#[]⟩⟩)
              rw [h2, h] at this; exact absurd this.symm hr
          rw [HO.out, h]; rfl
        clear hr
        go_wp2_with fail
        go_ret
        exact near_fin2 w w2 _ _ HF.out hW2 _ _ _ _ rfl rfl (by simp) (by simp [maxLen])
    · have q0 : (v.a == 0) = false := by simpa using hz
      have HNX : Hid (v.next = ⟨(v.a + 1), 0, 0, ⟨#[]⟩⟩) := by show _ = _; unfold V4.next; rw [if_neg hz]
      obtain ⟨r, hrn⟩ : ∃ r, verErr (v.a + 1) 0 0 [] = r := ⟨_, rfl⟩
      have HRN := Lib.hid hrn
      clear hrn hz
      go_enter Tryz.func95, Tryz.ntmps95
      go_wp2_with fail
      refine (checkQ_as v 0 HR.out _ ((HE.out.alloc _).alloc _) hs).mono ?_
      rintro e w1 ⟨rfl, hb1⟩
      obtain ⟨c0, d0⟩ := two_cells hb1 0
      obtain ⟨c1, d1⟩ := two_cells hb1 1
      obtain ⟨c2, d2⟩ := two_cells hb1 2
      obtain ⟨c3, d3⟩ := two_cells hb1 3
      have hW := two_below hb1
      have hB := cell_lt c0
      have hB2 := cell_lt d0
      simp at c0 c1 c2 c3 d0 d1 d2 d3
      clear hb1
      go_wp2_with fail
      refine (checkQ_as ⟨(v.a + 1), 0, 0, ⟨#[]⟩⟩ r HRN.out _ (HE.out.below hW) (show (⟨#[]⟩ : ByteArray).size ≤ _ by decide)).mono ?_
      rintro e w2 ⟨rfl, hb2⟩
      have c0 := (hb2.cell (p := ⟨w.heap.size, 0, none⟩) hB).trans c0
      have c1 := (hb2.cell (p := ⟨w.heap.size, 1, none⟩) hB).trans c1
      have c2 := (hb2.cell (p := ⟨w.heap.size, 2, none⟩) hB).trans c2
      have c3 := (hb2.cell (p := ⟨w.heap.size, 3, none⟩) hB).trans c3
      have d0 := (hb2.cell (p := ⟨w.heap.size + 1, 0, none⟩) hB2).trans d0
      have d1 := (hb2.cell (p := ⟨w.heap.size + 1, 1, none⟩) hB2).trans d1
      have d2 := (hb2.cell (p := ⟨w.heap.size + 1, 2, none⟩) hB2).trans d2
      have d3 := (hb2.cell (p := ⟨w.heap.size + 1, 3, none⟩) hB2).trans d3
      have hW2 := below_then hW hb2
      clear hb2 hW
      by_cases hr : r = 0
      · have hq : (r != 0) = false := by simpa using hr
        have HF : Hid (near v = [⟨4, v⟩, ⟨1, ⟨(v.a + 1), 0, 0, ⟨#[]⟩⟩⟩]) := by
          show _ = _
          unfold near
          have h : v.next.ok = true := by
            rw [HNX.out]
            cases h : (⟨(v.a + 1), 0, 0, ⟨#[]⟩⟩ : V4).ok
            · have := HRN.out
              have h2 : verErr (v.a + 1) 0 0 [] = if (⟨(v.a + 1), 0, 0, ⟨#[]⟩⟩ : V4).ok then 0 else 40 := V4.ok_err (v := ⟨(v.a + 1), 0, 0, ⟨#[]⟩⟩)
              rw [h2, h, hr] at this; cases this
            · rfl
          rw [HO.out, h, HNX.out]; rfl
        clear hr
        go_wp2_with fail
        go_ret
        exact near_fin2 w w2 _ _ HF.out hW2 _ _ _ _ rfl rfl (by simp) (by simp [maxLen])
      · have hq : (r != 0) = true := by simpa using hr
        have HF : Hid (near v = [⟨3, v⟩]) := by
          show _ = _
          unfold near
          have h : v.next.ok = false := by
            rw [HNX.out]
            cases h : (⟨(v.a + 1), 0, 0, ⟨#[]⟩⟩ : V4).ok
            · rfl
            · have := HRN.out
              have h2 : verErr (v.a + 1) 0 0 [] = if (⟨(v.a + 1), 0, 0, ⟨#[]⟩⟩ : V4).ok then 0 else 40 := V4.ok_err (v := ⟨(v.a + 1), 0, 0, ⟨#[]⟩⟩)
              rw [h2, h] at this; exact absurd this.symm hr
          rw [HO.out, h]; rfl
        clear hr
        go_wp2_with fail
        go_ret
        exact near_fin2 w w2 _ _ HF.out hW2 _ _ _ _ rfl rfl (by simp) (by simp [maxLen])
  · rw [Bool.not_eq_true] at hok
    have hr : verErr v.a v.b v.c v.p.data.toList = 40 := by rw [V4.ok_err, hok]; rfl
    have HR := Lib.hid hr
    have HN : Hid (near v = [⟨3, v⟩]) := by show _ = _; unfold near; rw [hok]; rfl
    clear hr hok
    by_cases hz : v.a = 0
    · have q0 : (v.a == 0) = true := by simpa using hz
      clear hz
      go_enter Tryz.func95, Tryz.ntmps95
      go_wp2_with fail
      refine (checkQ_as v 40 HR.out _ ((HE.out.alloc _).alloc _) hs).mono ?_
      rintro e w1 ⟨rfl, hb1⟩
      obtain ⟨c0, d0⟩ := two_cells hb1 0
      obtain ⟨c1, d1⟩ := two_cells hb1 1
      obtain ⟨c2, d2⟩ := two_cells hb1 2
      obtain ⟨c3, d3⟩ := two_cells hb1 3
      have hW := two_below hb1
      simp at c0 c1 c2 c3 d0 d1 d2 d3
      clear hb1
      go_wp2_with fail
      go_ret
      exact near_fin2 w w1 _ _ HN.out hW _ _ _ _ rfl rfl (by simp) (by simp [maxLen])
    · have q0 : (v.a == 0) = false := by simpa using hz
      clear hz
      go_enter Tryz.func95, Tryz.ntmps95
      go_wp2_with fail
      refine (checkQ_as v 40 HR.out _ ((HE.out.alloc _).alloc _) hs).mono ?_
      rintro e w1 ⟨rfl, hb1⟩
      obtain ⟨c0, d0⟩ := two_cells hb1 0
      obtain ⟨c1, d1⟩ := two_cells hb1 1
      obtain ⟨c2, d2⟩ := two_cells hb1 2
      obtain ⟨c3, d3⟩ := two_cells hb1 3
      have hW := two_below hb1
      simp at c0 c1 c2 c3 d0 d1 d2 d3
      clear hb1
      go_wp2_with fail
      go_ret
      exact near_fin2 w w1 _ _ HN.out hW _ _ _ _ rfl rfl (by simp) (by simp [maxLen])
theorem near_any (v : V4) (w : World) (hE : Env w) (hs : v.p.size ≤ 9223372036854775807) :
    Calls Tryz.prog 95 #[.agg #[.int .i64 v.a, .int .i64 v.b, .int .i64 v.c, .string v.p]] w fun e w' => ∃ x, e = .returned x ∧ Bnds w' x (near v) ∧ (∃ a cap, x = .slice a (near v).length cap) ∧ Below w.heap.size w w' :=
  (near_new v w hE hs).mono fun _ _ ⟨x, h1, h2, h3, h4, _⟩ => ⟨x, h1, h2, h3, h4⟩
end Go.Proofs.YtjjpngdbbjeaiaaGreatDoor
