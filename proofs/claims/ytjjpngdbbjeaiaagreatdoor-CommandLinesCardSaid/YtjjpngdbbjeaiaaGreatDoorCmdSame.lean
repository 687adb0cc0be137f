/- The reference's Same of needs and of picks: walks. -/
import Derived.Test.YtjjpngdbbjeaiaaGreatDoorRanSame
import Derived.Test.YtjjpngdbbjeaiaaGreatDoorCmdRows
import Derived.Deep.RegionHeld3
namespace Go
open Go.RowKit
theorem wcells_get (vs : List (Want × Value)) : ∀ (j : Nat) (h : j < vs.length) (i : Nat), i < 2 → (vs.flatMap WCells)[j * 2 + i]? = (WCells vs[j])[i]? := by
  induction vs with
  | nil => intro j h; cases h
  | cons v vs ih =>
    intro j h i hi
    rw [List.flatMap_cons]
    cases j with
    | zero =>
      have : i < (WCells v).length := hi
      rw [Nat.zero_mul, Nat.zero_add, List.getElem?_append_left this]; rfl
    | succ j =>
      have hl : (WCells v).length = 2 := rfl
      rw [List.getElem?_append_right (by rw [hl]; omega), hl, show (j + 1) * 2 + i - 2 = j * 2 + i by omega, ih j (by simpa using h) i hi]
      rfl
theorem pcells_get (vs : List Pck) : ∀ (j : Nat) (h : j < vs.length) (i : Nat), i < 5 → (vs.flatMap Pck.cells)[j * 5 + i]? = (vs[j].cells)[i]? := by
  induction vs with
  | nil => intro j h; cases h
  | cons v vs ih =>
    intro j h i hi
    rw [List.flatMap_cons]
    cases j with
    | zero =>
      have : i < v.cells.length := hi
      rw [Nat.zero_mul, Nat.zero_add, List.getElem?_append_left this]; rfl
    | succ j =>
      have hl : v.cells.length = 5 := rfl
      rw [List.getElem?_append_right (by rw [hl]; omega), hl, show (j + 1) * 5 + i - 5 = j * 5 + i by omega, ih j (by simpa using h) i hi]
      rfl
theorem Wants.full {w : World} {v : Value} {xs : List (Want × Value)} (h : Wants w v xs) (hn : 0 < xs.length) :
    ∃ b off cap, v = .slice (some ⟨b, off, none⟩) xs.length cap ∧ b < w.heap.size ∧ ∀ j (h : j < xs.length), w.cell? ⟨b, off + j * 2, none⟩ = some (.string (S xs[j].1.name)) ∧ w.cell? ⟨b, off + j * 2 + 1, none⟩ = some xs[j].2 := by
  obtain ⟨_, _, ⟨_, _, _, h4, _⟩ | ⟨b, off, cap, h3, _, h5, h6⟩⟩ := h.1
  · omega
  · refine ⟨b, off, cap, h3, h5, fun j hj => ⟨?_, ?_⟩⟩
    · have := (h6 (j * 2) (by omega)).trans (wcells_get xs j hj 0 (by omega)); simpa [WCells] using this
    · have := (h6 (j * 2 + 1) (by omega)).trans (wcells_get xs j hj 1 (by omega)); simpa [WCells, Nat.add_assoc] using this
theorem Pcks.full {w : World} {v : Value} {ps : List Pck} (h : Pcks w v ps) (hn : 0 < ps.length) :
    ∃ b off cap, v = .slice (some ⟨b, off, none⟩) ps.length cap ∧ b < w.heap.size ∧ ∀ j (h : j < ps.length), w.cell? ⟨b, off + j * 5, none⟩ = some (.string (S ps[j].name)) ∧
      w.cell? ⟨b, off + j * 5 + 1, none⟩ = some (.int .i64 ps[j].v.a) ∧ w.cell? ⟨b, off + j * 5 + 2, none⟩ = some (.int .i64 ps[j].v.b) ∧ w.cell? ⟨b, off + j * 5 + 3, none⟩ = some (.int .i64 ps[j].v.c) ∧ w.cell? ⟨b, off + j * 5 + 4, none⟩ = some (.string ps[j].v.p) := by
  obtain ⟨_, _, ⟨_, _, _, h4, _⟩ | ⟨b, off, cap, h3, _, h5, h6⟩⟩ := h
  · omega
  · refine ⟨b, off, cap, h3, h5, fun j hj => ?_⟩
    have g := fun i hi => (h6 (j * 5 + i) (by omega)).trans (pcells_get ps j hj i hi)
    refine ⟨?_, ?_, ?_, ?_, ?_⟩
    · have := g 0 (by omega); simpa [Pck.cells] using this
    · have := g 1 (by omega); simpa [Pck.cells, Nat.add_assoc] using this
    · have := g 2 (by omega); simpa [Pck.cells, Nat.add_assoc] using this
    · have := g 3 (by omega); simpa [Pck.cells, Nat.add_assoc] using this
    · have := g 4 (by omega); simpa [Pck.cells, Nat.add_assoc] using this
end Go
namespace Go.Proofs.YtjjpngdbbjeaiaaGreatDoor
open Go.RowKit
theorem same_bnds (v u : Value) (xs : List Bnd) (w : World) (hv : Bnds w v xs) (hlen : ∃ a cap, v = .slice a xs.length cap) (hu : Bnds w u xs) (hlen' : ∃ a cap, u = .slice a xs.length cap) :
    Calls Tryz.prog 59 #[v, u] w fun e w' => e = .returned (.bool true) ∧ Below w.heap.size w w' := by
  have hm := hv.cases.1
  unfold maxLen at hm
  have := same_any v u xs xs w hv hlen hu hlen' (by omega)
  rw [show sameB xs xs = true from decide_eq_true rfl] at this
  exact this
def SnRel (n : Nat) (w : World) (i : Value) (wr : World) : Prop := ∃ k : Nat, k ≤ n ∧ i = .int .i64 (k : Int) ∧ Below w.heap.size w wr
set_option maxRecDepth 100000 in
set_option maxHeartbeats 1000000 in
theorem sameNeeds_self (v u : Value) (xs ys : List (Want × Value)) (w : World) (hv : Wants w v xs) (hlen : ∃ a cap, v = .slice a xs.length cap) (hu : Wants w u ys) (hlen' : ∃ a cap, u = .slice a ys.length cap) (hxy : xs.map Prod.fst = ys.map Prod.fst) :
    Calls Tryz.prog 33 #[v, u] w fun e w' => e = .returned (.bool true) ∧ Below w.heap.size w w' := by
  have hl : ys.length = xs.length := by have := congrArg List.length hxy; simpa using this.symm
  have hm := hv.1.2.1
  unfold maxLen at hm
  have HV := Lib.hid hv
  have HU := Lib.hid hu
  have HXY := Lib.hid hxy
  obtain ⟨a, cap, rfl⟩ := hlen
  obtain ⟨a', cap', rfl⟩ := hlen'
  rw [hl] at HU ⊢
  have HL := Lib.hid hl
  have q3 : ((xs.length : Int) != (xs.length : Int)) = false := by simp
  clear hv hu hxy hl
  go_enter Tryz.func33, Tryz.ntmps33
  go_wp2_with fail
  go_loopw [5] (fun i wr => SnRel xs.length w i wr) (fun i _ => xs.length - (intOf i).toNat)
  case atStart => exact ⟨0, Nat.zero_le _, rfl, Below.refl _ _⟩
  case round =>
    obtain ⟨k, hk, rfl, hb⟩ := hrel
    by_cases hlt : k < xs.length
    · have hlt' : k < ys.length := by have := HL.out; omega
      have i0 : (0 : Int) ≤ (k : Int) := by omega
      have i1 : (k : Int) < (xs.length : Int) := by omega
      obtain ⟨bx, ox, cx, hva, hbx, hcx⟩ := HV.out.full (by omega)
      obtain ⟨by', oy, cy, hua, hby, hcy⟩ := HU.out.full (by omega)
      have ha : a = some ⟨bx, ox, none⟩ := by injection hva
      have ha' : a' = some ⟨by', oy, none⟩ := by injection hua
      subst ha ha'
      obtain ⟨g0, g1⟩ := hcx k hlt
      obtain ⟨f0, f1⟩ := hcy k hlt'
      have hxe : xs[k].1 = ys[k].1 := by
        have h : (xs.map Prod.fst)[k]? = (ys.map Prod.fst)[k]? := by rw [HXY.out]
        rw [List.getElem?_map, List.getElem?_map, List.getElem?_eq_getElem hlt, List.getElem?_eq_getElem hlt'] at h
        simpa using h
      obtain ⟨hr1, ra, rcap, hr2⟩ := HV.out.2 _ (List.getElem_mem hlt)
      obtain ⟨hs1, sa, scap, hs2⟩ := HU.out.2 _ (List.getElem_mem hlt')
      rw [← hxe] at f0 hs1 hs2
      obtain ⟨X, hX⟩ : ∃ X, xs[k].1 = X := ⟨_, rfl⟩
      rw [hX] at g0 f0 hr1 hr2 hs1 hs2
      rw [hr2] at g1 hr1
      rw [hs2] at f1 hs1
      obtain ⟨A, hA⟩ : ∃ A, S X.name = A := ⟨_, rfl⟩
      rw [hA] at g0 f0
      obtain ⟨rn, hrn⟩ : ∃ n, X.bs.length = n := ⟨_, rfl⟩
      rw [hrn] at g1 f1 hr1 hs1
      have c0 := (hb.cell (p := ⟨bx, ox + k * 2, none⟩) hbx).trans g0
      have c1 := (hb.cell (p := ⟨bx, ox + k * 2 + 1, none⟩) hbx).trans g1
      have d0 := (hb.cell (p := ⟨by', oy + k * 2, none⟩) hby).trans f0
      have d1 := (hb.cell (p := ⟨by', oy + k * 2 + 1, none⟩) hby).trans f1
      have HR1 := Lib.hid (hr1.below hb (Nat.le_refl _))
      have HS1 := Lib.hid (hs1.below hb (Nat.le_refl _))
      have hbx2 := Nat.lt_of_lt_of_le hbx hb.size
      have hby2 := Nat.lt_of_lt_of_le hby hb.size
      have q4 : (A.toList == A.toList) = true := beq_self_eq_true _
      have q5 : (A.toList != A.toList) = false := by simp
      have HSm : Hid (∀ W, (W.cell? ⟨bx, ox + k * 2, none⟩ = some (.string A) ∧ W.cell? ⟨bx, ox + k * 2 + 1, none⟩ = some (.slice ra rn rcap) ∧ W.cell? ⟨by', oy + k * 2, none⟩ = some (.string A) ∧ W.cell? ⟨by', oy + k * 2 + 1, none⟩ = some (.slice sa rn scap) ∧ Below wr.heap.size wr W) →
          Calls Tryz.prog 59 #[.slice ra rn rcap, .slice sa rn scap] W fun e W' => e = .returned (.bool true) ∧ (W'.cell? ⟨bx, ox + k * 2, none⟩ = some (.string A) ∧ W'.cell? ⟨bx, ox + k * 2 + 1, none⟩ = some (.slice ra rn rcap) ∧ W'.cell? ⟨by', oy + k * 2, none⟩ = some (.string A) ∧ W'.cell? ⟨by', oy + k * 2 + 1, none⟩ = some (.slice sa rn scap) ∧ Below wr.heap.size wr W')) := by
        intro W hW
        have hB := hW.2.2.2.2
        refine (same_bnds _ _ X.bs W (HR1.out.below hB (Nat.le_refl _)) ⟨_, _, by rw [hrn]⟩ (HS1.out.below hB (Nat.le_refl _)) ⟨_, _, by rw [hrn]⟩).mono fun e W' ⟨h1, h2⟩ => ⟨h1, ?_⟩
        have hx2 := Nat.lt_of_lt_of_le hbx2 hB.size
        have hy2 := Nat.lt_of_lt_of_le hby2 hB.size
        exact ⟨(h2.cell (p := ⟨bx, _, none⟩) hx2).trans hW.1, (h2.cell (p := ⟨bx, _, none⟩) hx2).trans hW.2.1, (h2.cell (p := ⟨by', _, none⟩) hy2).trans hW.2.2.1, (h2.cell (p := ⟨by', _, none⟩) hy2).trans hW.2.2.2.1, below_then hB h2⟩
      have hd0 := (Below.refl wr.heap.size wr).drew
      clear hX hA hrn hva hua hcx hcy hr1 hs1 g0 g1 f0 f1 HV HU hxe hr2 hs2
      go_wp2_with fail
      refine wp_region_held_drew (S := (fun w' => w'.cell? ⟨bx, ox + k * 2, none⟩ = some (.string A) ∧ w'.cell? ⟨bx, ox + k * 2 + 1, none⟩ = some (.slice ra rn rcap) ∧ w'.cell? ⟨by', oy + k * 2, none⟩ = some (.string A) ∧ w'.cell? ⟨by', oy + k * 2 + 1, none⟩ = some (.slice sa rn scap) ∧ Below wr.heap.size wr w')) (by kernel_rfl) (⟨c0, c1, d0, d1, hd0⟩) (fun hHeld => ?_)
      refine wpAnyH_take (i := 0) (v := ?_) rfl (by kernel_rfl) (by kernel_rfl) (by kernel_rfl) (fun _ _ _ h => h) (Or.inl ⟨by kernel_rfl, ?_⟩) hHeld ?_
      rotate_left
      · (intro W hSw; (try dsimp only at hSw); go_simp; (try with_reducible rfl))
      (try simp only [Act.put]); (try simp only [List.setIfInBounds_toArray]); (try simp only [List.set_cons_succ]); (try simp only [List.set_cons_zero])
      refine wpAnyH_take (i := 1) (v := ?_) rfl (by kernel_rfl) (by kernel_rfl) (by kernel_rfl) (fun _ _ _ h => h) (Or.inl ⟨by kernel_rfl, ?_⟩) hHeld ?_
      rotate_left
      · (intro W hSw; (try dsimp only at hSw); go_simp; (try with_reducible rfl))
      (try simp only [Act.put]); (try simp only [List.setIfInBounds_toArray]); (try simp only [List.set_cons_succ]); (try simp only [List.set_cons_zero])
      refine wpAnyH_take (i := 2) (v := ?_) rfl (by kernel_rfl) (by kernel_rfl) (by kernel_rfl) (fun _ _ _ h => h) (Or.inl ⟨by kernel_rfl, ?_⟩) hHeld ?_
      rotate_left
      · (intro W hSw; (try dsimp only at hSw); go_simp; (try with_reducible rfl))
      (try simp only [Act.put]); (try simp only [List.setIfInBounds_toArray]); (try simp only [List.set_cons_succ]); (try simp only [List.set_cons_zero])
      refine wpAnyH_take (i := 3) (v := ?_) rfl (by kernel_rfl) (by kernel_rfl) (by kernel_rfl) (fun _ _ _ h => h) (Or.inl ⟨by kernel_rfl, ?_⟩) hHeld ?_
      rotate_left
      · (intro W hSw; (try dsimp only at hSw); go_simp; (try with_reducible rfl))
      (try simp only [Act.put]); (try simp only [List.setIfInBounds_toArray]); (try simp only [List.set_cons_succ]); (try simp only [List.set_cons_zero])
      refine wpAnyH_take (i := 4) (v := ?_) rfl (by kernel_rfl) (by kernel_rfl) (by kernel_rfl) (fun _ _ _ h => h) (Or.inl ⟨by kernel_rfl, ?_⟩) hHeld ?_
      rotate_left
      · (intro W hSw; (try dsimp only at hSw); go_simp; (try with_reducible rfl))
      (try simp only [Act.put]); (try simp only [List.setIfInBounds_toArray]); (try simp only [List.set_cons_succ]); (try simp only [List.set_cons_zero])
      refine wpAnyH_take (i := 5) (v := ?_) rfl (by kernel_rfl) (by kernel_rfl) (by kernel_rfl) (fun _ _ _ h => h) (Or.inl ⟨by kernel_rfl, ?_⟩) hHeld ?_
      rotate_left
      · (intro W hSw; (try dsimp only at hSw); go_simp; (try with_reducible rfl))
      (try simp only [Act.put]); (try simp only [List.setIfInBounds_toArray]); (try simp only [List.set_cons_succ]); (try simp only [List.set_cons_zero])
      refine wpAnyH_take (i := 6) (v := ?_) rfl (by kernel_rfl) (by kernel_rfl) (by kernel_rfl) (fun _ _ _ h => h) (Or.inl ⟨by kernel_rfl, ?_⟩) hHeld ?_
      rotate_left
      · (intro W hSw; (try dsimp only at hSw); go_simp; (try with_reducible rfl))
      (try simp only [Act.put]); (try simp only [List.setIfInBounds_toArray]); (try simp only [List.set_cons_succ]); (try simp only [List.set_cons_zero])
      refine wpAnyH_take (i := 7) (v := ?_) rfl (by kernel_rfl) (by kernel_rfl) (by kernel_rfl) (fun _ _ _ h => h) (Or.inl ⟨by kernel_rfl, ?_⟩) hHeld ?_
      rotate_left
      · (intro W hSw; (try dsimp only at hSw); go_simp; (try with_reducible rfl))
      (try simp only [Act.put]); (try simp only [List.setIfInBounds_toArray]); (try simp only [List.set_cons_succ]); (try simp only [List.set_cons_zero])
      refine wpAnyH_take (i := 8) (v := ?_) rfl (by kernel_rfl) (by kernel_rfl) (by kernel_rfl) (fun _ _ _ h => h) (Or.inl ⟨by kernel_rfl, ?_⟩) hHeld ?_
      rotate_left
      · (intro W hSw; (try dsimp only at hSw); go_simp; (try with_reducible rfl))
      (try simp only [Act.put]); (try simp only [List.setIfInBounds_toArray]); (try simp only [List.set_cons_succ]); (try simp only [List.set_cons_zero])
      refine wpAnyH_take (i := 9) (v := ?_) rfl (by kernel_rfl) (by kernel_rfl) (by kernel_rfl) (fun _ _ _ h => h) (Or.inl ⟨by kernel_rfl, ?_⟩) hHeld ?_
      rotate_left
      · (intro W hSw; (try dsimp only at hSw); go_simp; (try with_reducible rfl))
      (try simp only [Act.put]); (try simp only [List.setIfInBounds_toArray]); (try simp only [List.set_cons_succ]); (try simp only [List.set_cons_zero])
      refine wpAnyH_take (i := 10) (v := ?_) rfl (by kernel_rfl) (by kernel_rfl) (by kernel_rfl) (fun _ _ _ h => h) (Or.inl ⟨by kernel_rfl, ?_⟩) hHeld ?_
      rotate_left
      · (intro W hSw; (try dsimp only at hSw); go_simp; (try with_reducible rfl))
      (try simp only [Act.put]); (try simp only [List.setIfInBounds_toArray]); (try simp only [List.set_cons_succ]); (try simp only [List.set_cons_zero])
      refine wpAnyH_take (i := 11) (v := ?_) rfl (by kernel_rfl) (by kernel_rfl) (by kernel_rfl) (fun _ _ _ h => h) (Or.inl ⟨by kernel_rfl, ?_⟩) hHeld ?_
      rotate_left
      · (intro W hSw; (try dsimp only at hSw); go_simp; (try with_reducible rfl))
      (try simp only [Act.put]); (try simp only [List.setIfInBounds_toArray]); (try simp only [List.set_cons_succ]); (try simp only [List.set_cons_zero])
      refine wpAnyH_take (i := 12) (v := ?_) rfl (by kernel_rfl) (by kernel_rfl) (by kernel_rfl) (fun _ _ _ h => h) (Or.inl ⟨by kernel_rfl, ?_⟩) hHeld ?_
      rotate_left
      · (intro W hSw; (try dsimp only at hSw); go_simp; (try with_reducible rfl))
      (try simp only [Act.put]); (try simp only [List.setIfInBounds_toArray]); (try simp only [List.set_cons_succ]); (try simp only [List.set_cons_zero])
      refine wpAnyH_take (i := 13) (v := ?_) rfl (by kernel_rfl) (by kernel_rfl) (by kernel_rfl) (fun _ _ _ h => h) (Or.inl ⟨by kernel_rfl, ?_⟩) hHeld ?_
      rotate_left
      · (intro W hSw; (try dsimp only at hSw); go_simp; (try with_reducible rfl))
      (try simp only [Act.put]); (try simp only [List.setIfInBounds_toArray]); (try simp only [List.set_cons_succ]); (try simp only [List.set_cons_zero])
      refine wpAnyH_take (i := 14) (v := ?_) rfl (by kernel_rfl) (by kernel_rfl) (by kernel_rfl) (fun _ _ _ h => h) (Or.inl ⟨by kernel_rfl, ?_⟩) hHeld ?_
      rotate_left
      · (intro W hSw; (try dsimp only at hSw); go_simp; (try with_reducible rfl))
      (try simp only [Act.put]); (try simp only [List.setIfInBounds_toArray]); (try simp only [List.set_cons_succ]); (try simp only [List.set_cons_zero])
      refine wpAnyH_take (i := 15) (v := ?_) rfl (by kernel_rfl) (by kernel_rfl) (by kernel_rfl) (fun _ _ _ h => h) (Or.inl ⟨by kernel_rfl, ?_⟩) hHeld ?_
      rotate_left
      · (intro W hSw; (try dsimp only at hSw); go_simp; (try with_reducible rfl))
      (try simp only [Act.put]); (try simp only [List.setIfInBounds_toArray]); (try simp only [List.set_cons_succ]); (try simp only [List.set_cons_zero])
      refine wpAnyH_take (i := 16) (v := ?_) rfl (by kernel_rfl) (by kernel_rfl) (by kernel_rfl) (fun _ _ _ h => h) (Or.inl ⟨by kernel_rfl, ?_⟩) hHeld ?_
      rotate_left
      · (intro W hSw; (try dsimp only at hSw); go_simp; (try with_reducible rfl))
      (try simp only [Act.put]); (try simp only [List.setIfInBounds_toArray]); (try simp only [List.set_cons_succ]); (try simp only [List.set_cons_zero])
      refine wpAnyH_take (i := 17) (v := ?_) rfl (by kernel_rfl) (by kernel_rfl) (by kernel_rfl) (fun _ _ _ h => h) (Or.inl ⟨by kernel_rfl, ?_⟩) hHeld ?_
      rotate_left
      · (intro W hSw; (try dsimp only at hSw); go_simp; (try with_reducible rfl))
      (try simp only [Act.put]); (try simp only [List.setIfInBounds_toArray]); (try simp only [List.set_cons_succ]); (try simp only [List.set_cons_zero])
      refine wpAnyH_take (i := 18) (v := ?_) rfl (by kernel_rfl) (by kernel_rfl) (by kernel_rfl) (fun _ _ _ h => h) (Or.inl ⟨by kernel_rfl, ?_⟩) hHeld ?_
      rotate_left
      · (intro W hSw; (try dsimp only at hSw); go_simp; (try with_reducible rfl))
      (try simp only [Act.put]); (try simp only [List.setIfInBounds_toArray]); (try simp only [List.set_cons_succ]); (try simp only [List.set_cons_zero])
      refine wpAnyH_take (i := 19) (v := ?_) rfl (by kernel_rfl) (by kernel_rfl) (by kernel_rfl) (fun _ _ _ h => h) (Or.inl ⟨by kernel_rfl, ?_⟩) hHeld ?_
      rotate_left
      · (intro W hSw; (try dsimp only at hSw); go_simp; (try with_reducible rfl))
      (try simp only [Act.put]); (try simp only [List.setIfInBounds_toArray]); (try simp only [List.set_cons_succ]); (try simp only [List.set_cons_zero])
      refine wpAnyH_take (i := 20) (v := ?_) rfl (by kernel_rfl) (by kernel_rfl) (by kernel_rfl) (fun _ _ _ h => h) (Or.inl ⟨by kernel_rfl, ?_⟩) hHeld ?_
      rotate_left
      · (intro W hSw; (try dsimp only at hSw); go_simp; (try with_reducible rfl))
      (try simp only [Act.put]); (try simp only [List.setIfInBounds_toArray]); (try simp only [List.set_cons_succ]); (try simp only [List.set_cons_zero])
      refine wpAnyH_take (i := 21) (v := ?_) rfl (by kernel_rfl) (by kernel_rfl) (by kernel_rfl) (fun _ _ _ h => h) (Or.inl ⟨by kernel_rfl, ?_⟩) hHeld ?_
      rotate_left
      · (intro W hSw; (try dsimp only at hSw); go_simp; (try with_reducible rfl))
      (try simp only [Act.put]); (try simp only [List.setIfInBounds_toArray]); (try simp only [List.set_cons_succ]); (try simp only [List.set_cons_zero])
      refine wpAnyH_ready (rs := [22]) (by kernel_rfl) (by simp) ?_
      refine AllReadyH.cons rfl (fun K hK => ?_) AllReadyH.nil
      go_simp
      refine (HSm.out _ hHeld).mono ?_
      rintro e w5 ⟨rfl, hk5⟩
      refine hK.out _ _ (hk5) (fun hHeld => ?_)
      clear hK K
      (try simp only [Act.put]); (try simp only [List.setIfInBounds_toArray]); (try simp only [List.set_cons_succ]); (try simp only [List.set_cons_zero])
      refine wpAnyH_take (i := 23) (v := ?_) rfl (by kernel_rfl) (by kernel_rfl) (by kernel_rfl) (fun _ _ _ h => h) (Or.inl ⟨by kernel_rfl, ?_⟩) hHeld ?_
      rotate_left
      · (intro W hSw; (try dsimp only at hSw); go_simp; (try with_reducible rfl))
      (try simp only [Act.put]); (try simp only [List.setIfInBounds_toArray]); (try simp only [List.set_cons_succ]); (try simp only [List.set_cons_zero])
      refine wpAnyH_ready (rs := [24]) (by kernel_rfl) (by simp) ?_
      refine AllReadyH.cons rfl (fun K hK => ?_) AllReadyH.nil
      go_simp
      refine hK.out _ _ (hHeld) (fun hHeld => ?_)
      clear hK K
      (try simp only [Act.put]); (try simp only [List.setIfInBounds_toArray]); (try simp only [List.set_cons_succ]); (try simp only [List.set_cons_zero])
      refine wpAnyH_done (by kernel_rfl) ?_ _
      have hbF := below_then hb hHeld.2.2.2.2
      clear hHeld
      go_wp2_with fail
      go_roundw
      case rel => exact ⟨k + 1, hlt, by go_num, hbF⟩
      case measure => simp [intOf]; omega
    · have q5 : decide (k < xs.length) = false := decide_eq_false hlt
      clear hlt
      go_wp2_with fail
      go_ret
      exact ⟨rfl, hb⟩
set_option maxRecDepth 100000 in
theorem pck_eq (n : ByteArray) (a b c : Int) (p : ByteArray) (W : World) :
    (Op.equalIn 10000 93 (.agg #[.string n, .int .i64 a, .int .i64 b, .int .i64 c, .string p]) (.agg #[.string n, .int .i64 a, .int .i64 b, .int .i64 c, .string p])).run Tryz.prog W = .ok true W := by
  go_simp
  try simp
set_option maxRecDepth 100000 in
set_option maxHeartbeats 1000000 in
theorem samePicks_self (v u : Value) (ps : List Pck) (w : World) (hv : Pcks w v ps) (hlen : ∃ a cap, v = .slice a ps.length cap) (hu : Pcks w u ps) (hlen' : ∃ a cap, u = .slice a ps.length cap) :
    Calls Tryz.prog 34 #[v, u] w fun e w' => e = .returned (.bool true) ∧ Below w.heap.size w w' := by
  have hm := hv.2.1
  unfold maxLen at hm
  have HV := Lib.hid hv
  have HU := Lib.hid hu
  obtain ⟨a, cap, rfl⟩ := hlen
  obtain ⟨a', cap', rfl⟩ := hlen'
  have q3 : ((ps.length : Int) != (ps.length : Int)) = false := by simp
  clear hv hu
  go_enter Tryz.func34, Tryz.ntmps34
  go_wp2_with fail
  go_loopw [5] (fun i wr => SnRel ps.length w i wr) (fun i _ => ps.length - (intOf i).toNat)
  case atStart => exact ⟨0, Nat.zero_le _, rfl, Below.refl _ _⟩
  case round =>
    obtain ⟨k, hk, rfl, hb⟩ := hrel
    by_cases hlt : k < ps.length
    · have i0 : (0 : Int) ≤ (k : Int) := by omega
      have i1 : (k : Int) < (ps.length : Int) := by omega
      obtain ⟨bx, ox, cx, hva, hbx, hcx⟩ := HV.out.full (by omega)
      obtain ⟨by', oy, cy, hua, hby, hcy⟩ := HU.out.full (by omega)
      have ha : a = some ⟨bx, ox, none⟩ := by injection hva
      have ha' : a' = some ⟨by', oy, none⟩ := by injection hua
      subst ha ha'
      obtain ⟨g0, g1, g2, g3, g4⟩ := hcx k hlt
      obtain ⟨f0, f1, f2, f3, f4⟩ := hcy k hlt
      have c0 := (hb.cell (p := ⟨bx, ox + k * 5, none⟩) hbx).trans g0
      have c1 := (hb.cell (p := ⟨bx, ox + k * 5 + 1, none⟩) hbx).trans g1
      have c2 := (hb.cell (p := ⟨bx, ox + k * 5 + 2, none⟩) hbx).trans g2
      have c3 := (hb.cell (p := ⟨bx, ox + k * 5 + 3, none⟩) hbx).trans g3
      have c4 := (hb.cell (p := ⟨bx, ox + k * 5 + 4, none⟩) hbx).trans g4
      have d0 := (hb.cell (p := ⟨by', oy + k * 5, none⟩) hby).trans f0
      have d1 := (hb.cell (p := ⟨by', oy + k * 5 + 1, none⟩) hby).trans f1
      have d2 := (hb.cell (p := ⟨by', oy + k * 5 + 2, none⟩) hby).trans f2
      have d3 := (hb.cell (p := ⟨by', oy + k * 5 + 3, none⟩) hby).trans f3
      have d4 := (hb.cell (p := ⟨by', oy + k * 5 + 4, none⟩) hby).trans f4
      obtain ⟨⟨nm, ⟨va, vb, vc, vp⟩⟩, hx⟩ : ∃ x, ps[k] = x := ⟨_, rfl⟩
      rw [hx] at c0 c1 c2 c3 c4 d0 d1 d2 d3 d4
      obtain ⟨A, hA⟩ : ∃ A, S nm = A := ⟨_, rfl⟩
      dsimp only at c0 c1 c2 c3 c4 d0 d1 d2 d3 d4
      rw [hA] at c0 d0
      have r1 : ∀ W, (Op.equalIn 10000 93 (.agg #[.string A, .int .i64 va, .int .i64 vb, .int .i64 vc, .string vp]) (.agg #[.string A, .int .i64 va, .int .i64 vb, .int .i64 vc, .string vp])).run Tryz.prog W = .ok true W := fun W => pck_eq _ _ _ _ _ W
      clear g0 g1 g2 g3 g4 f0 f1 f2 f3 f4 hx hA hva hua hcx hcy HV HU
      go_wp2_with fail
      go_quiet (fail)
      go_wp2_with fail
      go_roundw
      case rel => exact ⟨k + 1, hlt, by go_num, below_drewN hb _⟩
      case measure => simp [intOf]; omega
    · have q5 : decide (k < ps.length) = false := decide_eq_false hlt
      clear hlt
      go_wp2_with fail
      go_ret
      exact ⟨rfl, hb⟩
end Go.Proofs.YtjjpngdbbjeaiaaGreatDoor
