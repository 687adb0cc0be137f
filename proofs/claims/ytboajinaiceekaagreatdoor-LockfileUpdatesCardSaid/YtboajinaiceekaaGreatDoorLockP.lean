/- Locks: the program's may: a walk. Locks: the program's version, line: walks. Locks: the program's digits: a walk. Locks: the program's Show: a walk. -/
import Derived.Test.YtboajinaiceekaaGreatDoorLockPlain
import Derived.Test.YtboajinaiceekaaGreatDoorLex1
import Derived.Test.YtboajinaiceekaaGreatDoorSemProg
import Derived.Test.YtboajinaiceekaaGreatDoorCells
import Derived.Test.YtboajinaiceekaaGreatDoorCrc1
import Derived.Laws.MakeOwn
import Derived.Test.YtboajinaiceekaaGreatDoorCrc2
namespace Go
open Go.RowKit
theorem box_five {w w1 : World} {x0 x1 x2 x3 x4 : Value} {T : TypeId} (h : Below (w.heap.size + 1) (w.alloc (.cells #[x0, x1, x2, x3, x4] T)) w1) :
    (w1.cell? ⟨w.heap.size, 0, none⟩ = some x0 ∧ w1.cell? ⟨w.heap.size, 1, none⟩ = some x1 ∧ w1.cell? ⟨w.heap.size, 2, none⟩ = some x2 ∧ w1.cell? ⟨w.heap.size, 3, none⟩ = some x3 ∧ w1.cell? ⟨w.heap.size, 4, none⟩ = some x4) ∧
    (w1.frozen? ⟨w.heap.size, 0, none⟩ = false ∧ w1.frozen? ⟨w.heap.size, 1, none⟩ = false ∧ w1.frozen? ⟨w.heap.size, 2, none⟩ = false ∧ w1.frozen? ⟨w.heap.size, 3, none⟩ = false ∧ w1.frozen? ⟨w.heap.size, 4, none⟩ = false) :=
  ⟨⟨box_cells h 0, box_cells h 1, box_cells h 2, box_cells h 3, box_cells h 4⟩, box_free h 0, box_free h 1, box_free h 2, box_free h 3, box_free h 4⟩
theorem keepK5 {P : Program} {f : FuncId} {args : Array Value} {v : Value} (w0 w : World) (B : Nat) (x0 x1 x2 x3 x4 : Value)
    (h : w.cell? ⟨B, 0, none⟩ = some x0 ∧ w.cell? ⟨B, 1, none⟩ = some x1 ∧ w.cell? ⟨B, 2, none⟩ = some x2 ∧ w.cell? ⟨B, 3, none⟩ = some x3 ∧ w.cell? ⟨B, 4, none⟩ = some x4 ∧ Below w0.heap.size w0 w)
    (hc : Calls P f args w fun e w' => e = .returned v ∧ Below w.heap.size w w') :
    Calls P f args w fun e w' => e = .returned v ∧ (w'.cell? ⟨B, 0, none⟩ = some x0 ∧ w'.cell? ⟨B, 1, none⟩ = some x1 ∧ w'.cell? ⟨B, 2, none⟩ = some x2 ∧ w'.cell? ⟨B, 3, none⟩ = some x3 ∧ w'.cell? ⟨B, 4, none⟩ = some x4 ∧ Below w0.heap.size w0 w') := by
  obtain ⟨h0, h1, h2, h3, h4, h5⟩ := h
  exact hc.mono fun _ _ ⟨he, hb⟩ => ⟨he, (hb.cell (p := ⟨B, 0, none⟩) (cell_lt h0)).trans h0, (hb.cell (p := ⟨B, 1, none⟩) (cell_lt h1)).trans h1, (hb.cell (p := ⟨B, 2, none⟩) (cell_lt h2)).trans h2, (hb.cell (p := ⟨B, 3, none⟩) (cell_lt h3)).trans h3, (hb.cell (p := ⟨B, 4, none⟩) (cell_lt h4)).trans h4, below_then h5 hb⟩
theorem keepK6 {P : Program} {f : FuncId} {args : Array Value} {v : Value} (w0 w : World) (c o B : Nat) (y x0 x1 x2 x3 x4 : Value)
    (h : w.cell? ⟨c, o, none⟩ = some y ∧ w.cell? ⟨B, 0, none⟩ = some x0 ∧ w.cell? ⟨B, 1, none⟩ = some x1 ∧ w.cell? ⟨B, 2, none⟩ = some x2 ∧ w.cell? ⟨B, 3, none⟩ = some x3 ∧ w.cell? ⟨B, 4, none⟩ = some x4 ∧ Below w0.heap.size w0 w)
    (hc : Calls P f args w fun e w' => e = .returned v ∧ Below w.heap.size w w') :
    Calls P f args w fun e w' => e = .returned v ∧ (w'.cell? ⟨c, o, none⟩ = some y ∧ w'.cell? ⟨B, 0, none⟩ = some x0 ∧ w'.cell? ⟨B, 1, none⟩ = some x1 ∧ w'.cell? ⟨B, 2, none⟩ = some x2 ∧ w'.cell? ⟨B, 3, none⟩ = some x3 ∧ w'.cell? ⟨B, 4, none⟩ = some x4 ∧ Below w0.heap.size w0 w') := by
  obtain ⟨hy, h0, h1, h2, h3, h4, h5⟩ := h
  exact hc.mono fun _ _ ⟨he, hb⟩ => ⟨he, (hb.cell (p := ⟨c, o, none⟩) (cell_lt hy)).trans hy, (hb.cell (p := ⟨B, 0, none⟩) (cell_lt h0)).trans h0, (hb.cell (p := ⟨B, 1, none⟩) (cell_lt h1)).trans h1, (hb.cell (p := ⟨B, 2, none⟩) (cell_lt h2)).trans h2, (hb.cell (p := ⟨B, 3, none⟩) (cell_lt h3)).trans h3, (hb.cell (p := ⟨B, 4, none⟩) (cell_lt h4)).trans h4, below_then h5 hb⟩
/-- a row of picks, at a later world -/
theorem Piks.row {w w' : World} {a0 : Option Addr} {cap0 : Nat} {ps : List Pik} (h : Piks w (.slice a0 ps.length cap0) ps) (hb : Below w.heap.size w w') {k : Nat} (hk : k < ps.length) :
    ∃ b off, a0 = some ⟨b, off, none⟩ ∧ b < w.heap.size ∧ ∀ j (h : j < ps.length), w'.cell? ⟨b, off + j * 5, none⟩ = some (.string ps[j].name) ∧
      w'.cell? ⟨b, off + j * 5 + 1, none⟩ = some (.int .i64 ps[j].v.a) ∧ w'.cell? ⟨b, off + j * 5 + 2, none⟩ = some (.int .i64 ps[j].v.b) ∧ w'.cell? ⟨b, off + j * 5 + 3, none⟩ = some (.int .i64 ps[j].v.c) ∧
      w'.cell? ⟨b, off + j * 5 + 4, none⟩ = some (.string ps[j].v.p) := by
  rcases h.cases.2 with ⟨a, cap, hva, he⟩ | ⟨b, off, cap, hva, _, hbl, hc⟩
  · rw [he] at hk; cases hk
  · injection hva with hva
    refine ⟨b, off, hva, hbl, fun j hj => ?_⟩
    obtain ⟨g0, g1, g2, g3, g4⟩ := hc j hj
    exact ⟨(hb.cell (p := ⟨b, off + j * 5, none⟩) hbl).trans g0, (hb.cell (p := ⟨b, off + j * 5 + 1, none⟩) hbl).trans g1, (hb.cell (p := ⟨b, off + j * 5 + 2, none⟩) hbl).trans g2, (hb.cell (p := ⟨b, off + j * 5 + 3, none⟩) hbl).trans g3, (hb.cell (p := ⟨b, off + j * 5 + 4, none⟩) hbl).trans g4⟩
/-- the length, told by the slice itself -/
theorem Piks.len {w : World} {v : Value} {ps : List Pik} (h : Piks w v ps) : ∃ a cap, v = .slice a ps.length cap := by
  rcases h.cases.2 with ⟨a, cap, rfl, rfl⟩ | ⟨b, off, cap, rfl, _⟩
  · exact ⟨a, cap, rfl⟩
  · exact ⟨_, cap, rfl⟩
end Go
namespace Go.Proofs.YtboajinaiceekaaGreatDoor
open Go.RowKit
def MyRel (ps : List Pik) (w : World) (i : Value) (wr : World) : Prop :=
  ∃ k : Nat, k ≤ ps.length ∧ i = .int .i64 (k : Int) ∧ mayTo ps k = true ∧ Below w.heap.size w wr
theorem checkQ_as (v : V4) (r : Int) (h : verErr v.a v.b v.c v.p.data.toList = r) (w : World) (hE : Env w) (hs : v.p.size ≤ 9223372036854775807) :
    Calls Tryz.prog 46 #[.agg #[.int .i64 v.a, .int .i64 v.b, .int .i64 v.c, .string v.p]] w fun e w' => e = .returned (.int .i64 r) ∧ Below w.heap.size w w' := by
  subst h; exact check_any _ _ _ _ w hE hs
theorem verErr_no {v : V4} (h : ¬ v.ok = true) : verErr v.a v.b v.c v.p.data.toList = 40 := by
  unfold V4.ok at h
  unfold verErr; rw [if_neg h]
theorem verErr_yes {v : V4} (h : v.ok = true) : verErr v.a v.b v.c v.p.data.toList = 0 := by
  unfold V4.ok at h
  unfold verErr; rw [if_pos h]
theorem rises_zero (l : List Pik) : risesAt l 0 = true := by
  unfold risesAt
  cases l <;> simp
theorem rises_at {l : List Pik} {k : Nat} (h0 : 0 < k) (hk : k < l.length) {a b : ByteArray} (ha : l[k - 1].name = a) (hb : l[k].name = b) : risesAt l k = Op.bytesLess a.data.toList b.data.toList := by
  subst ha hb
  unfold risesAt
  rw [List.getElem?_eq_getElem (show k - 1 < l.length by omega), List.getElem?_eq_getElem hk]
  simp only [decide_eq_false (show ¬ k = 0 by omega), Bool.false_or]
  rfl
set_option maxRecDepth 100000 in
set_option maxHeartbeats 2000000 in
theorem may_any (v : Value) (ps : List Pik) (w : World) (hv : Piks w v ps) (hE : Env w) (hp : ∀ x ∈ ps, x.v.p.size ≤ 300) :
    Calls Tryz.prog 20 #[v] w fun e w' => e = .returned (.bool (mayB ps)) ∧ Below w.heap.size w w' := by
  obtain ⟨a0, cap0, rfl⟩ := hv.len
  have HP := Lib.hid hp
  have HE := Lib.hid hE
  have HV := Lib.hid hv
  have hmx : ps.length ≤ 9223372036854775807 := Nat.le_trans hv.cases.1 (by decide)
  clear hp hE hv
  go_enter Tryz.func20, Tryz.ntmps20
  go_wp2_with fail
  go_loopw [7] (fun i wr => MyRel ps w i wr) (fun i _ => ps.length - (intOf i).toNat)
  case atStart => exact ⟨0, Nat.zero_le _, rfl, rfl, Below.refl _ _⟩
  case round =>
    obtain ⟨k, hk, rfl, hall, hb⟩ := hrel
    have HA := Lib.hid hall
    clear hall
    by_cases hlt : k < ps.length
    · have i0 : (0 : Int) ≤ (k : Int) := by omega
      have i1 : (k : Int) < (ps.length : Int) := by omega
      obtain ⟨bx, ox, rfl, hbx, hc⟩ := HV.out.row hb hlt
      obtain ⟨c0, c1, c2, c3, c4⟩ := hc k hlt
      have hpx := HP.out _ (List.getElem_mem hlt)
      obtain ⟨nm, y, hye⟩ : ∃ nm y, ps[k] = ⟨nm, y⟩ := ⟨_, _, rfl⟩
      rw [hye] at c0 c1 c2 c3 c4 hpx
      simp only at c0 c1 c2 c3 c4 hpx
      have HY := Lib.hid hye
      have HCp := Lib.hid hc
      clear hye hc
      have hal : Below wr.heap.size wr (wr.alloc (.cells #[.string nm, .int .i64 y.a, .int .i64 y.b, .int .i64 y.c, .string y.p] 47)) := (Below.refl _ _).alloc (Nat.le_refl _) _
      have hbx4 : bx < wr.heap.size := Nat.lt_of_lt_of_le hbx hb.size
      obtain ⟨⟨v0, v1, v2, v3, v4⟩, _⟩ := box_five (Below.refl (wr.heap.size + 1) (wr.alloc (.cells #[.string nm, .int .i64 y.a, .int .i64 y.b, .int .i64 y.c, .string y.p] 47)))
      obtain ⟨nok, hnok⟩ : ∃ b, nameOk nm.data.toList = b := ⟨_, rfl⟩
      have HN := Lib.hid (fun W => lname_as nm nok hnok W)
      have HNo := Lib.hid hnok
      have hb5 := below_then hb hal
      clear hnok
      go_wp2_with fail
      obtain ⟨B4, hB4⟩ : ∃ B4, wr.heap.size = B4 := ⟨_, rfl⟩
      rw [hB4] at v0 v1 v2 v3 v4
      rw [hB4]
      generalize wr.alloc (.cells #[.string nm, .int .i64 y.a, .int .i64 y.b, .int .i64 y.c, .string y.p] 47) = w4 at v0 v1 v2 v3 v4 hal hb5 ⊢
      have HE4 := Lib.hid (HE.out.below hb5)
      have hd0 : Below w4.heap.size w4 w4.drew := (Below.refl _ _).drew
      have HAl := Lib.hid hal
      clear hal hB4 c0 c1 c2 c3 c4
    -- THE REGION
      cases nok
      · have HF : Hid (mayB ps = false) := mayTo_no hlt (.inl (by rw [HY.out]; unfold Pik.ok; show (nameOk nm.data.toList && _) = false; rw [HNo.out]; rfl))
        refine wp_region_held_drew (S := (fun w' => w'.cell? ⟨B4, 0, none⟩ = some (.string nm) ∧ w'.cell? ⟨B4, 1, none⟩ = some (.int .i64 y.a) ∧ w'.cell? ⟨B4, 2, none⟩ = some (.int .i64 y.b) ∧ w'.cell? ⟨B4, 3, none⟩ = some (.int .i64 y.c) ∧ w'.cell? ⟨B4, 4, none⟩ = some (.string y.p) ∧ Below w4.heap.size w4 w')) (by kernel_rfl) (⟨v0, v1, v2, v3, v4, hd0⟩) (fun hHeld => ?_)
        refine wpAnyH_take (i := 0) (v := ?_) rfl (by kernel_rfl) (by kernel_rfl) (by kernel_rfl) (fun _ _ _ h => h) (Or.inl ⟨by kernel_rfl, ?_⟩) hHeld ?_
        rotate_left
        · (intro W hSw; (try dsimp only at hSw); go_simp; (try with_reducible rfl))
        (try simp only [Act.put, List.getElem_toArray, List.getElem_cons_zero, List.setIfInBounds_toArray, List.set_cons_succ, List.set_cons_zero])
        refine wpAnyH_take (i := 1) (v := ?_) rfl (by kernel_rfl) (by kernel_rfl) (by kernel_rfl) (fun _ _ _ h => h) (Or.inl ⟨by kernel_rfl, ?_⟩) hHeld ?_
        rotate_left
        · (intro W hSw; (try dsimp only at hSw); go_simp; (try with_reducible rfl))
        (try simp only [Act.put, List.getElem_toArray, List.getElem_cons_succ, List.getElem_cons_zero, List.setIfInBounds_toArray, List.set_cons_succ, List.set_cons_zero])
        refine wpAnyH_ready (rs := [2]) (by kernel_rfl) (by simp) ?_
        refine AllReadyH.cons rfl (fun K hK => ?_) AllReadyH.nil
        go_simp
        refine (HN.out _).mono ?_
        rintro e w5 ⟨rfl, rfl⟩
        refine hK.out _ _ (hHeld) (fun hHeld => ?_)
        clear hK K
        (try simp only [Act.put, List.getElem_toArray, List.getElem_cons_succ, List.getElem_cons_zero, List.setIfInBounds_toArray, List.set_cons_succ, List.set_cons_zero])
        refine wpAnyH_take (i := 3) (v := ?_) rfl (by kernel_rfl) (by kernel_rfl) (by kernel_rfl) (fun _ _ _ h => h) (Or.inl ⟨by kernel_rfl, ?_⟩) hHeld ?_
        rotate_left
        · (intro W hSw; (try dsimp only at hSw); go_simp; (try with_reducible rfl))
        (try simp only [Act.put, List.getElem_toArray, List.getElem_cons_succ, List.getElem_cons_zero, List.setIfInBounds_toArray, List.set_cons_succ, List.set_cons_zero])
        refine wpAnyH_take (i := 4) (v := ?_) rfl (by kernel_rfl) (by kernel_rfl) (by kernel_rfl) (fun _ _ _ h => h) (Or.inl ⟨by kernel_rfl, ?_⟩) hHeld ?_
        rotate_left
        · (intro W hSw; (try dsimp only at hSw); go_simp; (try with_reducible rfl))
        (try simp only [Act.put, List.getElem_toArray, List.getElem_cons_succ, List.getElem_cons_zero, List.setIfInBounds_toArray, List.set_cons_succ, List.set_cons_zero])
        refine wpAnyH_take (i := 5) (v := undef) rfl (by kernel_rfl) (by kernel_rfl) (by kernel_rfl) (fun _ _ _ h => h) (Or.inr ⟨by kernel_rfl, rfl⟩) hHeld ?_
        (try simp only [Act.put, List.getElem_toArray, List.getElem_cons_succ, List.getElem_cons_zero, List.setIfInBounds_toArray, List.set_cons_succ, List.set_cons_zero])
        refine wpAnyH_take (i := 6) (v := undef) rfl (by kernel_rfl) (by kernel_rfl) (by kernel_rfl) (fun _ _ _ h => h) (Or.inr ⟨by kernel_rfl, rfl⟩) hHeld ?_
        (try simp only [Act.put, List.getElem_toArray, List.getElem_cons_succ, List.getElem_cons_zero, List.setIfInBounds_toArray, List.set_cons_succ, List.set_cons_zero])
        refine wpAnyH_take (i := 7) (v := undef) rfl (by kernel_rfl) (by kernel_rfl) (by kernel_rfl) (fun _ _ _ h => h) (Or.inr ⟨by kernel_rfl, rfl⟩) hHeld ?_
        (try simp only [Act.put, List.getElem_toArray, List.getElem_cons_succ, List.getElem_cons_zero, List.setIfInBounds_toArray, List.set_cons_succ, List.set_cons_zero])
        refine wpAnyH_take (i := 8) (v := undef) rfl (by kernel_rfl) (by kernel_rfl) (by kernel_rfl) (fun _ _ _ h => h) (Or.inr ⟨by kernel_rfl, rfl⟩) hHeld ?_
        (try simp only [Act.put, List.getElem_toArray, List.getElem_cons_succ, List.getElem_cons_zero, List.setIfInBounds_toArray, List.set_cons_succ, List.set_cons_zero])
        refine wpAnyH_take (i := 9) (v := ?_) rfl (by kernel_rfl) (by kernel_rfl) (by kernel_rfl) (fun _ _ _ h => h) (Or.inl ⟨by kernel_rfl, ?_⟩) hHeld ?_
        rotate_left
        · (intro W hSw; (try dsimp only at hSw); go_simp; (try with_reducible rfl))
        (try simp only [Act.put, List.getElem_toArray, List.getElem_cons_succ, List.getElem_cons_zero, List.setIfInBounds_toArray, List.set_cons_succ, List.set_cons_zero])
        refine wpAnyH_take (i := 10) (v := ?_) rfl (by kernel_rfl) (by kernel_rfl) (by kernel_rfl) (fun _ _ _ h => h) (Or.inl ⟨by kernel_rfl, ?_⟩) hHeld ?_
        rotate_left
        · (intro W hSw; (try dsimp only at hSw); go_simp; (try with_reducible rfl))
        (try simp only [Act.put, List.getElem_toArray, List.getElem_cons_succ, List.getElem_cons_zero, List.setIfInBounds_toArray, List.set_cons_succ, List.set_cons_zero])
        refine wpAnyH_take (i := 11) (v := undef) rfl (by kernel_rfl) (by kernel_rfl) (by kernel_rfl) (fun _ _ _ h => h) (Or.inr ⟨by kernel_rfl, rfl⟩) hHeld ?_
        (try simp only [Act.put, List.getElem_toArray, List.getElem_cons_succ, List.getElem_cons_zero, List.setIfInBounds_toArray, List.set_cons_succ, List.set_cons_zero])
        refine wpAnyH_take (i := 12) (v := undef) rfl (by kernel_rfl) (by kernel_rfl) (by kernel_rfl) (fun _ _ _ h => h) (Or.inr ⟨by kernel_rfl, rfl⟩) hHeld ?_
        (try simp only [Act.put, List.getElem_toArray, List.getElem_cons_succ, List.getElem_cons_zero, List.setIfInBounds_toArray, List.set_cons_succ, List.set_cons_zero])
        refine wpAnyH_take (i := 13) (v := undef) rfl (by kernel_rfl) (by kernel_rfl) (by kernel_rfl) (fun _ _ _ h => h) (Or.inr ⟨by kernel_rfl, rfl⟩) hHeld ?_
        (try simp only [Act.put, List.getElem_toArray, List.getElem_cons_succ, List.getElem_cons_zero, List.setIfInBounds_toArray, List.set_cons_succ, List.set_cons_zero])
        refine wpAnyH_take (i := 14) (v := undef) rfl (by kernel_rfl) (by kernel_rfl) (by kernel_rfl) (fun _ _ _ h => h) (Or.inr ⟨by kernel_rfl, rfl⟩) hHeld ?_
        (try simp only [Act.put, List.getElem_toArray, List.getElem_cons_succ, List.getElem_cons_zero, List.setIfInBounds_toArray, List.set_cons_succ, List.set_cons_zero])
        refine wpAnyH_take (i := 15) (v := undef) rfl (by kernel_rfl) (by kernel_rfl) (by kernel_rfl) (fun _ _ _ h => h) (Or.inr ⟨by kernel_rfl, rfl⟩) hHeld ?_
        (try simp only [Act.put, List.getElem_toArray, List.getElem_cons_succ, List.getElem_cons_zero, List.setIfInBounds_toArray, List.set_cons_succ, List.set_cons_zero])
        refine wpAnyH_take (i := 16) (v := undef) rfl (by kernel_rfl) (by kernel_rfl) (by kernel_rfl) (fun _ _ _ h => h) (Or.inr ⟨by kernel_rfl, rfl⟩) hHeld ?_
        (try simp only [Act.put, List.getElem_toArray, List.getElem_cons_succ, List.getElem_cons_zero, List.setIfInBounds_toArray, List.set_cons_succ, List.set_cons_zero])
        refine wpAnyH_take (i := 17) (v := undef) rfl (by kernel_rfl) (by kernel_rfl) (by kernel_rfl) (fun _ _ _ h => h) (Or.inr ⟨by kernel_rfl, rfl⟩) hHeld ?_
        (try simp only [Act.put, List.getElem_toArray, List.getElem_cons_succ, List.getElem_cons_zero, List.setIfInBounds_toArray, List.set_cons_succ, List.set_cons_zero])
        refine wpAnyH_take (i := 18) (v := undef) rfl (by kernel_rfl) (by kernel_rfl) (by kernel_rfl) (fun _ _ _ h => h) (Or.inr ⟨by kernel_rfl, rfl⟩) hHeld ?_
        (try simp only [Act.put, List.getElem_toArray, List.getElem_cons_succ, List.getElem_cons_zero, List.setIfInBounds_toArray, List.set_cons_succ, List.set_cons_zero])
        refine wpAnyH_take (i := 19) (v := undef) rfl (by kernel_rfl) (by kernel_rfl) (by kernel_rfl) (fun _ _ _ h => h) (Or.inr ⟨by kernel_rfl, rfl⟩) hHeld ?_
        (try simp only [Act.put, List.getElem_toArray, List.getElem_cons_succ, List.getElem_cons_zero, List.setIfInBounds_toArray, List.set_cons_succ, List.set_cons_zero])
        refine wpAnyH_take (i := 20) (v := undef) rfl (by kernel_rfl) (by kernel_rfl) (by kernel_rfl) (fun _ _ _ h => h) (Or.inr ⟨by kernel_rfl, rfl⟩) hHeld ?_
        (try simp only [Act.put, List.getElem_toArray, List.getElem_cons_succ, List.getElem_cons_zero, List.setIfInBounds_toArray, List.set_cons_succ, List.set_cons_zero])
        refine wpAnyH_take (i := 21) (v := undef) rfl (by kernel_rfl) (by kernel_rfl) (by kernel_rfl) (fun _ _ _ h => h) (Or.inr ⟨by kernel_rfl, rfl⟩) hHeld ?_
        (try simp only [Act.put, List.getElem_toArray, List.getElem_cons_succ, List.getElem_cons_zero, List.setIfInBounds_toArray, List.set_cons_succ, List.set_cons_zero])
        refine wpAnyH_take (i := 22) (v := undef) rfl (by kernel_rfl) (by kernel_rfl) (by kernel_rfl) (fun _ _ _ h => h) (Or.inr ⟨by kernel_rfl, rfl⟩) hHeld ?_
        (try simp only [Act.put, List.getElem_toArray, List.getElem_cons_succ, List.getElem_cons_zero, List.setIfInBounds_toArray, List.set_cons_succ, List.set_cons_zero])
        refine wpAnyH_take (i := 23) (v := undef) rfl (by kernel_rfl) (by kernel_rfl) (by kernel_rfl) (fun _ _ _ h => h) (Or.inr ⟨by kernel_rfl, rfl⟩) hHeld ?_
        (try simp only [Act.put, List.getElem_toArray, List.getElem_cons_succ, List.getElem_cons_zero, List.setIfInBounds_toArray, List.set_cons_succ, List.set_cons_zero])
        refine wpAnyH_take (i := 24) (v := ?_) rfl (by kernel_rfl) (by kernel_rfl) (by kernel_rfl) (fun _ _ _ h => h) (Or.inl ⟨by kernel_rfl, ?_⟩) hHeld ?_
        rotate_left
        · (intro W hSw; (try dsimp only at hSw); go_simp; (try with_reducible rfl))
        (try simp only [Act.put, List.getElem_toArray, List.getElem_cons_succ, List.getElem_cons_zero, List.setIfInBounds_toArray, List.set_cons_succ, List.set_cons_zero])
        refine wpAnyH_done (by kernel_rfl) ?_ _
        have hbF := below_then hb5 hHeld.2.2.2.2.2
        clear hHeld
        go_wp2_with fail
        go_ret
        exact ⟨by rw [HF.out]; rfl, hbF⟩
      by_cases hv : y.ok = true
      rotate_left
      · have HF : Hid (mayB ps = false) := mayTo_no hlt (.inl (by rw [HY.out]; unfold Pik.ok; rw [show y.ok = false by simpa using hv, Bool.and_false]))
        have HK := Lib.hid (fun W hW => checkQ_as y 40 (verErr_no hv) W hW (by omega))
        clear hv
        refine wp_region_held_drew (S := (fun w' => w'.cell? ⟨B4, 0, none⟩ = some (.string nm) ∧ w'.cell? ⟨B4, 1, none⟩ = some (.int .i64 y.a) ∧ w'.cell? ⟨B4, 2, none⟩ = some (.int .i64 y.b) ∧ w'.cell? ⟨B4, 3, none⟩ = some (.int .i64 y.c) ∧ w'.cell? ⟨B4, 4, none⟩ = some (.string y.p) ∧ Below w4.heap.size w4 w')) (by kernel_rfl) (⟨v0, v1, v2, v3, v4, hd0⟩) (fun hHeld => ?_)
        refine wpAnyH_take (i := 0) (v := ?_) rfl (by kernel_rfl) (by kernel_rfl) (by kernel_rfl) (fun _ _ _ h => h) (Or.inl ⟨by kernel_rfl, ?_⟩) hHeld ?_
        rotate_left
        · (intro W hSw; (try dsimp only at hSw); go_simp; (try with_reducible rfl))
        (try simp only [Act.put, List.getElem_toArray, List.getElem_cons_zero, List.setIfInBounds_toArray, List.set_cons_succ, List.set_cons_zero])
        refine wpAnyH_take (i := 1) (v := ?_) rfl (by kernel_rfl) (by kernel_rfl) (by kernel_rfl) (fun _ _ _ h => h) (Or.inl ⟨by kernel_rfl, ?_⟩) hHeld ?_
        rotate_left
        · (intro W hSw; (try dsimp only at hSw); go_simp; (try with_reducible rfl))
        (try simp only [Act.put, List.getElem_toArray, List.getElem_cons_succ, List.getElem_cons_zero, List.setIfInBounds_toArray, List.set_cons_succ, List.set_cons_zero])
        refine wpAnyH_ready (rs := [2]) (by kernel_rfl) (by simp) ?_
        refine AllReadyH.cons rfl (fun K hK => ?_) AllReadyH.nil
        go_simp
        refine (HN.out _).mono ?_
        rintro e w5 ⟨rfl, rfl⟩
        refine hK.out _ _ (hHeld) (fun hHeld => ?_)
        clear hK K
        (try simp only [Act.put, List.getElem_toArray, List.getElem_cons_succ, List.getElem_cons_zero, List.setIfInBounds_toArray, List.set_cons_succ, List.set_cons_zero])
        refine wpAnyH_take (i := 3) (v := ?_) rfl (by kernel_rfl) (by kernel_rfl) (by kernel_rfl) (fun _ _ _ h => h) (Or.inl ⟨by kernel_rfl, ?_⟩) hHeld ?_
        rotate_left
        · (intro W hSw; (try dsimp only at hSw); go_simp; (try with_reducible rfl))
        (try simp only [Act.put, List.getElem_toArray, List.getElem_cons_succ, List.getElem_cons_zero, List.setIfInBounds_toArray, List.set_cons_succ, List.set_cons_zero])
        refine wpAnyH_take (i := 4) (v := ?_) rfl (by kernel_rfl) (by kernel_rfl) (by kernel_rfl) (fun _ _ _ h => h) (Or.inl ⟨by kernel_rfl, ?_⟩) hHeld ?_
        rotate_left
        · (intro W hSw; (try dsimp only at hSw); go_simp; (try with_reducible rfl))
        (try simp only [Act.put, List.getElem_toArray, List.getElem_cons_succ, List.getElem_cons_zero, List.setIfInBounds_toArray, List.set_cons_succ, List.set_cons_zero])
        refine wpAnyH_take (i := 5) (v := ?_) rfl (by kernel_rfl) (by kernel_rfl) (by kernel_rfl) (fun _ _ _ h => h) (Or.inl ⟨by kernel_rfl, ?_⟩) hHeld ?_
        rotate_left
        · (intro W hSw; (try dsimp only at hSw); go_simp; (try with_reducible rfl))
        (try simp only [Act.put, List.getElem_toArray, List.getElem_cons_succ, List.getElem_cons_zero, List.setIfInBounds_toArray, List.set_cons_succ, List.set_cons_zero])
        refine wpAnyH_take (i := 6) (v := ?_) rfl (by kernel_rfl) (by kernel_rfl) (by kernel_rfl) (fun _ _ _ h => h) (Or.inl ⟨by kernel_rfl, ?_⟩) hHeld ?_
        rotate_left
        · (intro W hSw; (try dsimp only at hSw); go_simp; (try with_reducible rfl))
        (try simp only [Act.put, List.getElem_toArray, List.getElem_cons_succ, List.getElem_cons_zero, List.setIfInBounds_toArray, List.set_cons_succ, List.set_cons_zero])
        refine wpAnyH_ready (rs := [7]) (by kernel_rfl) (by simp) ?_
        refine AllReadyH.cons rfl (fun K hK => ?_) AllReadyH.nil
        go_simp
        refine (keepK5 w4 _ B4 _ _ _ _ _ hHeld (HK.out _ (HE4.out.below hHeld.2.2.2.2.2))).mono ?_
        rintro e w6 ⟨rfl, hk6⟩
        refine hK.out _ _ (hk6) (fun hHeld => ?_)
        clear hK K
        (try simp only [Act.put, List.getElem_toArray, List.getElem_cons_succ, List.getElem_cons_zero, List.setIfInBounds_toArray, List.set_cons_succ, List.set_cons_zero])
        refine wpAnyH_take (i := 8) (v := ?_) rfl (by kernel_rfl) (by kernel_rfl) (by kernel_rfl) (fun _ _ _ h => h) (Or.inl ⟨by kernel_rfl, ?_⟩) hHeld ?_
        rotate_left
        · (intro W hSw; (try dsimp only at hSw); go_simp; (try with_reducible rfl))
        (try simp only [Act.put, List.getElem_toArray, List.getElem_cons_succ, List.getElem_cons_zero, List.setIfInBounds_toArray, List.set_cons_succ, List.set_cons_zero])
        refine wpAnyH_take (i := 9) (v := ?_) rfl (by kernel_rfl) (by kernel_rfl) (by kernel_rfl) (fun _ _ _ h => h) (Or.inl ⟨by kernel_rfl, ?_⟩) hHeld ?_
        rotate_left
        · (intro W hSw; (try dsimp only at hSw); go_simp; (try with_reducible rfl))
        (try simp only [Act.put, List.getElem_toArray, List.getElem_cons_succ, List.getElem_cons_zero, List.setIfInBounds_toArray, List.set_cons_succ, List.set_cons_zero])
        refine wpAnyH_take (i := 10) (v := ?_) rfl (by kernel_rfl) (by kernel_rfl) (by kernel_rfl) (fun _ _ _ h => h) (Or.inl ⟨by kernel_rfl, ?_⟩) hHeld ?_
        rotate_left
        · (intro W hSw; (try dsimp only at hSw); go_simp; (try with_reducible rfl))
        (try simp only [Act.put, List.getElem_toArray, List.getElem_cons_succ, List.getElem_cons_zero, List.setIfInBounds_toArray, List.set_cons_succ, List.set_cons_zero])
        refine wpAnyH_take (i := 11) (v := undef) rfl (by kernel_rfl) (by kernel_rfl) (by kernel_rfl) (fun _ _ _ h => h) (Or.inr ⟨by kernel_rfl, rfl⟩) hHeld ?_
        (try simp only [Act.put, List.getElem_toArray, List.getElem_cons_succ, List.getElem_cons_zero, List.setIfInBounds_toArray, List.set_cons_succ, List.set_cons_zero])
        refine wpAnyH_take (i := 12) (v := undef) rfl (by kernel_rfl) (by kernel_rfl) (by kernel_rfl) (fun _ _ _ h => h) (Or.inr ⟨by kernel_rfl, rfl⟩) hHeld ?_
        (try simp only [Act.put, List.getElem_toArray, List.getElem_cons_succ, List.getElem_cons_zero, List.setIfInBounds_toArray, List.set_cons_succ, List.set_cons_zero])
        refine wpAnyH_take (i := 13) (v := undef) rfl (by kernel_rfl) (by kernel_rfl) (by kernel_rfl) (fun _ _ _ h => h) (Or.inr ⟨by kernel_rfl, rfl⟩) hHeld ?_
        (try simp only [Act.put, List.getElem_toArray, List.getElem_cons_succ, List.getElem_cons_zero, List.setIfInBounds_toArray, List.set_cons_succ, List.set_cons_zero])
        refine wpAnyH_take (i := 14) (v := undef) rfl (by kernel_rfl) (by kernel_rfl) (by kernel_rfl) (fun _ _ _ h => h) (Or.inr ⟨by kernel_rfl, rfl⟩) hHeld ?_
        (try simp only [Act.put, List.getElem_toArray, List.getElem_cons_succ, List.getElem_cons_zero, List.setIfInBounds_toArray, List.set_cons_succ, List.set_cons_zero])
        refine wpAnyH_take (i := 15) (v := undef) rfl (by kernel_rfl) (by kernel_rfl) (by kernel_rfl) (fun _ _ _ h => h) (Or.inr ⟨by kernel_rfl, rfl⟩) hHeld ?_
        (try simp only [Act.put, List.getElem_toArray, List.getElem_cons_succ, List.getElem_cons_zero, List.setIfInBounds_toArray, List.set_cons_succ, List.set_cons_zero])
        refine wpAnyH_take (i := 16) (v := undef) rfl (by kernel_rfl) (by kernel_rfl) (by kernel_rfl) (fun _ _ _ h => h) (Or.inr ⟨by kernel_rfl, rfl⟩) hHeld ?_
        (try simp only [Act.put, List.getElem_toArray, List.getElem_cons_succ, List.getElem_cons_zero, List.setIfInBounds_toArray, List.set_cons_succ, List.set_cons_zero])
        refine wpAnyH_take (i := 17) (v := undef) rfl (by kernel_rfl) (by kernel_rfl) (by kernel_rfl) (fun _ _ _ h => h) (Or.inr ⟨by kernel_rfl, rfl⟩) hHeld ?_
        (try simp only [Act.put, List.getElem_toArray, List.getElem_cons_succ, List.getElem_cons_zero, List.setIfInBounds_toArray, List.set_cons_succ, List.set_cons_zero])
        refine wpAnyH_take (i := 18) (v := undef) rfl (by kernel_rfl) (by kernel_rfl) (by kernel_rfl) (fun _ _ _ h => h) (Or.inr ⟨by kernel_rfl, rfl⟩) hHeld ?_
        (try simp only [Act.put, List.getElem_toArray, List.getElem_cons_succ, List.getElem_cons_zero, List.setIfInBounds_toArray, List.set_cons_succ, List.set_cons_zero])
        refine wpAnyH_take (i := 19) (v := undef) rfl (by kernel_rfl) (by kernel_rfl) (by kernel_rfl) (fun _ _ _ h => h) (Or.inr ⟨by kernel_rfl, rfl⟩) hHeld ?_
        (try simp only [Act.put, List.getElem_toArray, List.getElem_cons_succ, List.getElem_cons_zero, List.setIfInBounds_toArray, List.set_cons_succ, List.set_cons_zero])
        refine wpAnyH_take (i := 20) (v := undef) rfl (by kernel_rfl) (by kernel_rfl) (by kernel_rfl) (fun _ _ _ h => h) (Or.inr ⟨by kernel_rfl, rfl⟩) hHeld ?_
        (try simp only [Act.put, List.getElem_toArray, List.getElem_cons_succ, List.getElem_cons_zero, List.setIfInBounds_toArray, List.set_cons_succ, List.set_cons_zero])
        refine wpAnyH_take (i := 21) (v := undef) rfl (by kernel_rfl) (by kernel_rfl) (by kernel_rfl) (fun _ _ _ h => h) (Or.inr ⟨by kernel_rfl, rfl⟩) hHeld ?_
        (try simp only [Act.put, List.getElem_toArray, List.getElem_cons_succ, List.getElem_cons_zero, List.setIfInBounds_toArray, List.set_cons_succ, List.set_cons_zero])
        refine wpAnyH_take (i := 22) (v := undef) rfl (by kernel_rfl) (by kernel_rfl) (by kernel_rfl) (fun _ _ _ h => h) (Or.inr ⟨by kernel_rfl, rfl⟩) hHeld ?_
        (try simp only [Act.put, List.getElem_toArray, List.getElem_cons_succ, List.getElem_cons_zero, List.setIfInBounds_toArray, List.set_cons_succ, List.set_cons_zero])
        refine wpAnyH_take (i := 23) (v := undef) rfl (by kernel_rfl) (by kernel_rfl) (by kernel_rfl) (fun _ _ _ h => h) (Or.inr ⟨by kernel_rfl, rfl⟩) hHeld ?_
        (try simp only [Act.put, List.getElem_toArray, List.getElem_cons_succ, List.getElem_cons_zero, List.setIfInBounds_toArray, List.set_cons_succ, List.set_cons_zero])
        refine wpAnyH_take (i := 24) (v := ?_) rfl (by kernel_rfl) (by kernel_rfl) (by kernel_rfl) (fun _ _ _ h => h) (Or.inl ⟨by kernel_rfl, ?_⟩) hHeld ?_
        rotate_left
        · (intro W hSw; (try dsimp only at hSw); go_simp; (try with_reducible rfl))
        (try simp only [Act.put, List.getElem_toArray, List.getElem_cons_succ, List.getElem_cons_zero, List.setIfInBounds_toArray, List.set_cons_succ, List.set_cons_zero])
        refine wpAnyH_done (by kernel_rfl) ?_ _
        have hbF := below_then hb5 hHeld.2.2.2.2.2
        clear hHeld
        go_wp2_with fail
        go_ret
        exact ⟨by rw [HF.out]; rfl, hbF⟩
      have HOk : Hid (ps[k].ok = true) := by
        show _ = _
        rw [HY.out]; unfold Pik.ok; show (nameOk nm.data.toList && _) = true; rw [HNo.out, hv]; rfl
      have HK := Lib.hid (fun W hW => checkQ_as y 0 (verErr_yes hv) W hW (by omega))
      clear hv
      by_cases hk0 : k = 0
      · have q6 : decide ((0 : Int) < (k : Int)) = false := decide_eq_false (by omega)
        have q7 : decide (0 < k) = false := decide_eq_false (by omega)
        have HS : Hid (mayTo ps (k + 1) = true) := mayTo_succ hlt HA.out HOk.out (by subst hk0; exact rises_zero ps)
        clear hk0
        refine wp_region_held_drew (S := (fun w' => w'.cell? ⟨B4, 0, none⟩ = some (.string nm) ∧ w'.cell? ⟨B4, 1, none⟩ = some (.int .i64 y.a) ∧ w'.cell? ⟨B4, 2, none⟩ = some (.int .i64 y.b) ∧ w'.cell? ⟨B4, 3, none⟩ = some (.int .i64 y.c) ∧ w'.cell? ⟨B4, 4, none⟩ = some (.string y.p) ∧ Below w4.heap.size w4 w')) (by kernel_rfl) (⟨v0, v1, v2, v3, v4, hd0⟩) (fun hHeld => ?_)
        refine wpAnyH_take (i := 0) (v := ?_) rfl (by kernel_rfl) (by kernel_rfl) (by kernel_rfl) (fun _ _ _ h => h) (Or.inl ⟨by kernel_rfl, ?_⟩) hHeld ?_
        rotate_left
        · (intro W hSw; (try dsimp only at hSw); go_simp; (try with_reducible rfl))
        (try simp only [Act.put, List.getElem_toArray, List.getElem_cons_zero, List.setIfInBounds_toArray, List.set_cons_succ, List.set_cons_zero])
        refine wpAnyH_take (i := 1) (v := ?_) rfl (by kernel_rfl) (by kernel_rfl) (by kernel_rfl) (fun _ _ _ h => h) (Or.inl ⟨by kernel_rfl, ?_⟩) hHeld ?_
        rotate_left
        · (intro W hSw; (try dsimp only at hSw); go_simp; (try with_reducible rfl))
        (try simp only [Act.put, List.getElem_toArray, List.getElem_cons_succ, List.getElem_cons_zero, List.setIfInBounds_toArray, List.set_cons_succ, List.set_cons_zero])
        refine wpAnyH_ready (rs := [2]) (by kernel_rfl) (by simp) ?_
        refine AllReadyH.cons rfl (fun K hK => ?_) AllReadyH.nil
        go_simp
        refine (HN.out _).mono ?_
        rintro e w5 ⟨rfl, rfl⟩
        refine hK.out _ _ (hHeld) (fun hHeld => ?_)
        clear hK K
        (try simp only [Act.put, List.getElem_toArray, List.getElem_cons_succ, List.getElem_cons_zero, List.setIfInBounds_toArray, List.set_cons_succ, List.set_cons_zero])
        refine wpAnyH_take (i := 3) (v := ?_) rfl (by kernel_rfl) (by kernel_rfl) (by kernel_rfl) (fun _ _ _ h => h) (Or.inl ⟨by kernel_rfl, ?_⟩) hHeld ?_
        rotate_left
        · (intro W hSw; (try dsimp only at hSw); go_simp; (try with_reducible rfl))
        (try simp only [Act.put, List.getElem_toArray, List.getElem_cons_succ, List.getElem_cons_zero, List.setIfInBounds_toArray, List.set_cons_succ, List.set_cons_zero])
        refine wpAnyH_take (i := 4) (v := ?_) rfl (by kernel_rfl) (by kernel_rfl) (by kernel_rfl) (fun _ _ _ h => h) (Or.inl ⟨by kernel_rfl, ?_⟩) hHeld ?_
        rotate_left
        · (intro W hSw; (try dsimp only at hSw); go_simp; (try with_reducible rfl))
        (try simp only [Act.put, List.getElem_toArray, List.getElem_cons_succ, List.getElem_cons_zero, List.setIfInBounds_toArray, List.set_cons_succ, List.set_cons_zero])
        refine wpAnyH_take (i := 5) (v := ?_) rfl (by kernel_rfl) (by kernel_rfl) (by kernel_rfl) (fun _ _ _ h => h) (Or.inl ⟨by kernel_rfl, ?_⟩) hHeld ?_
        rotate_left
        · (intro W hSw; (try dsimp only at hSw); go_simp; (try with_reducible rfl))
        (try simp only [Act.put, List.getElem_toArray, List.getElem_cons_succ, List.getElem_cons_zero, List.setIfInBounds_toArray, List.set_cons_succ, List.set_cons_zero])
        refine wpAnyH_take (i := 6) (v := ?_) rfl (by kernel_rfl) (by kernel_rfl) (by kernel_rfl) (fun _ _ _ h => h) (Or.inl ⟨by kernel_rfl, ?_⟩) hHeld ?_
        rotate_left
        · (intro W hSw; (try dsimp only at hSw); go_simp; (try with_reducible rfl))
        (try simp only [Act.put, List.getElem_toArray, List.getElem_cons_succ, List.getElem_cons_zero, List.setIfInBounds_toArray, List.set_cons_succ, List.set_cons_zero])
        refine wpAnyH_ready (rs := [7]) (by kernel_rfl) (by simp) ?_
        refine AllReadyH.cons rfl (fun K hK => ?_) AllReadyH.nil
        go_simp
        refine (keepK5 w4 _ B4 _ _ _ _ _ hHeld (HK.out _ (HE4.out.below hHeld.2.2.2.2.2))).mono ?_
        rintro e w6 ⟨rfl, hk6⟩
        refine hK.out _ _ (hk6) (fun hHeld => ?_)
        clear hK K
        (try simp only [Act.put, List.getElem_toArray, List.getElem_cons_succ, List.getElem_cons_zero, List.setIfInBounds_toArray, List.set_cons_succ, List.set_cons_zero])
        refine wpAnyH_take (i := 8) (v := ?_) rfl (by kernel_rfl) (by kernel_rfl) (by kernel_rfl) (fun _ _ _ h => h) (Or.inl ⟨by kernel_rfl, ?_⟩) hHeld ?_
        rotate_left
        · (intro W hSw; (try dsimp only at hSw); go_simp; (try with_reducible rfl))
        (try simp only [Act.put, List.getElem_toArray, List.getElem_cons_succ, List.getElem_cons_zero, List.setIfInBounds_toArray, List.set_cons_succ, List.set_cons_zero])
        refine wpAnyH_take (i := 9) (v := ?_) rfl (by kernel_rfl) (by kernel_rfl) (by kernel_rfl) (fun _ _ _ h => h) (Or.inl ⟨by kernel_rfl, ?_⟩) hHeld ?_
        rotate_left
        · (intro W hSw; (try dsimp only at hSw); go_simp; (try with_reducible rfl))
        (try simp only [Act.put, List.getElem_toArray, List.getElem_cons_succ, List.getElem_cons_zero, List.setIfInBounds_toArray, List.set_cons_succ, List.set_cons_zero])
        refine wpAnyH_take (i := 10) (v := ?_) rfl (by kernel_rfl) (by kernel_rfl) (by kernel_rfl) (fun _ _ _ h => h) (Or.inl ⟨by kernel_rfl, ?_⟩) hHeld ?_
        rotate_left
        · (intro W hSw; (try dsimp only at hSw); go_simp; (try with_reducible rfl))
        (try simp only [Act.put, List.getElem_toArray, List.getElem_cons_succ, List.getElem_cons_zero, List.setIfInBounds_toArray, List.set_cons_succ, List.set_cons_zero])
        refine wpAnyH_take (i := 11) (v := ?_) rfl (by kernel_rfl) (by kernel_rfl) (by kernel_rfl) (fun _ _ _ h => h) (Or.inl ⟨by kernel_rfl, ?_⟩) hHeld ?_
        rotate_left
        · (intro W hSw; (try dsimp only at hSw); go_simp; (try with_reducible rfl))
        (try simp only [Act.put, List.getElem_toArray, List.getElem_cons_succ, List.getElem_cons_zero, List.setIfInBounds_toArray, List.set_cons_succ, List.set_cons_zero])
        refine wpAnyH_take (i := 12) (v := ?_) rfl (by kernel_rfl) (by kernel_rfl) (by kernel_rfl) (fun _ _ _ h => h) (Or.inl ⟨by kernel_rfl, ?_⟩) hHeld ?_
        rotate_left
        · (intro W hSw; (try dsimp only at hSw); go_simp; (try with_reducible rfl))
        (try simp only [Act.put, List.getElem_toArray, List.getElem_cons_succ, List.getElem_cons_zero, List.setIfInBounds_toArray, List.set_cons_succ, List.set_cons_zero])
        refine wpAnyH_take (i := 13) (v := ?_) rfl (by kernel_rfl) (by kernel_rfl) (by kernel_rfl) (fun _ _ _ h => h) (Or.inl ⟨by kernel_rfl, ?_⟩) hHeld ?_
        rotate_left
        · (intro W hSw; (try dsimp only at hSw); go_simp; (try with_reducible rfl))
        (try simp only [Act.put, List.getElem_toArray, List.getElem_cons_succ, List.getElem_cons_zero, List.setIfInBounds_toArray, List.set_cons_succ, List.set_cons_zero])
        refine wpAnyH_take (i := 14) (v := undef) rfl (by kernel_rfl) (by kernel_rfl) (by kernel_rfl) (fun _ _ _ h => h) (Or.inr ⟨by kernel_rfl, rfl⟩) hHeld ?_
        (try simp only [Act.put, List.getElem_toArray, List.getElem_cons_succ, List.getElem_cons_zero, List.setIfInBounds_toArray, List.set_cons_succ, List.set_cons_zero])
        refine wpAnyH_take (i := 15) (v := undef) rfl (by kernel_rfl) (by kernel_rfl) (by kernel_rfl) (fun _ _ _ h => h) (Or.inr ⟨by kernel_rfl, rfl⟩) hHeld ?_
        (try simp only [Act.put, List.getElem_toArray, List.getElem_cons_succ, List.getElem_cons_zero, List.setIfInBounds_toArray, List.set_cons_succ, List.set_cons_zero])
        refine wpAnyH_take (i := 16) (v := undef) rfl (by kernel_rfl) (by kernel_rfl) (by kernel_rfl) (fun _ _ _ h => h) (Or.inr ⟨by kernel_rfl, rfl⟩) hHeld ?_
        (try simp only [Act.put, List.getElem_toArray, List.getElem_cons_succ, List.getElem_cons_zero, List.setIfInBounds_toArray, List.set_cons_succ, List.set_cons_zero])
        refine wpAnyH_take (i := 17) (v := undef) rfl (by kernel_rfl) (by kernel_rfl) (by kernel_rfl) (fun _ _ _ h => h) (Or.inr ⟨by kernel_rfl, rfl⟩) hHeld ?_
        (try simp only [Act.put, List.getElem_toArray, List.getElem_cons_succ, List.getElem_cons_zero, List.setIfInBounds_toArray, List.set_cons_succ, List.set_cons_zero])
        refine wpAnyH_take (i := 18) (v := undef) rfl (by kernel_rfl) (by kernel_rfl) (by kernel_rfl) (fun _ _ _ h => h) (Or.inr ⟨by kernel_rfl, rfl⟩) hHeld ?_
        (try simp only [Act.put, List.getElem_toArray, List.getElem_cons_succ, List.getElem_cons_zero, List.setIfInBounds_toArray, List.set_cons_succ, List.set_cons_zero])
        refine wpAnyH_take (i := 19) (v := undef) rfl (by kernel_rfl) (by kernel_rfl) (by kernel_rfl) (fun _ _ _ h => h) (Or.inr ⟨by kernel_rfl, rfl⟩) hHeld ?_
        (try simp only [Act.put, List.getElem_toArray, List.getElem_cons_succ, List.getElem_cons_zero, List.setIfInBounds_toArray, List.set_cons_succ, List.set_cons_zero])
        refine wpAnyH_take (i := 20) (v := undef) rfl (by kernel_rfl) (by kernel_rfl) (by kernel_rfl) (fun _ _ _ h => h) (Or.inr ⟨by kernel_rfl, rfl⟩) hHeld ?_
        (try simp only [Act.put, List.getElem_toArray, List.getElem_cons_succ, List.getElem_cons_zero, List.setIfInBounds_toArray, List.set_cons_succ, List.set_cons_zero])
        refine wpAnyH_take (i := 21) (v := undef) rfl (by kernel_rfl) (by kernel_rfl) (by kernel_rfl) (fun _ _ _ h => h) (Or.inr ⟨by kernel_rfl, rfl⟩) hHeld ?_
        (try simp only [Act.put, List.getElem_toArray, List.getElem_cons_succ, List.getElem_cons_zero, List.setIfInBounds_toArray, List.set_cons_succ, List.set_cons_zero])
        refine wpAnyH_take (i := 22) (v := undef) rfl (by kernel_rfl) (by kernel_rfl) (by kernel_rfl) (fun _ _ _ h => h) (Or.inr ⟨by kernel_rfl, rfl⟩) hHeld ?_
        (try simp only [Act.put, List.getElem_toArray, List.getElem_cons_succ, List.getElem_cons_zero, List.setIfInBounds_toArray, List.set_cons_succ, List.set_cons_zero])
        refine wpAnyH_take (i := 23) (v := ?_) rfl (by kernel_rfl) (by kernel_rfl) (by kernel_rfl) (fun _ _ _ h => h) (Or.inl ⟨by kernel_rfl, ?_⟩) hHeld ?_
        rotate_left
        · (intro W hSw; (try dsimp only at hSw); go_simp; (try with_reducible rfl))
        (try simp only [Act.put, List.getElem_toArray, List.getElem_cons_succ, List.getElem_cons_zero, List.setIfInBounds_toArray, List.set_cons_succ, List.set_cons_zero])
        refine wpAnyH_take (i := 24) (v := ?_) rfl (by kernel_rfl) (by kernel_rfl) (by kernel_rfl) (fun _ _ _ h => h) (Or.inl ⟨by kernel_rfl, ?_⟩) hHeld ?_
        rotate_left
        · (intro W hSw; (try dsimp only at hSw); go_simp; (try with_reducible rfl))
        (try simp only [Act.put, List.getElem_toArray, List.getElem_cons_succ, List.getElem_cons_zero, List.setIfInBounds_toArray, List.set_cons_succ, List.set_cons_zero])
        refine wpAnyH_done (by kernel_rfl) ?_ _
        have hbF := below_then hb5 hHeld.2.2.2.2.2
        clear hHeld
        go_wp2_with fail
        go_roundw
        case rel => exact ⟨k + 1, hlt, by go_num, HS.out, hbF⟩
        case measure => simp [intOf]; omega
      have q6 : decide ((0 : Int) < (k : Int)) = true := decide_eq_true (by omega)
      have q7 : decide (0 < k) = true := decide_eq_true (by omega)
      have hk1 : k - 1 < ps.length := by omega
      obtain ⟨pn, hpn⟩ : ∃ pn, ps[k - 1].name = pn := ⟨_, rfl⟩
      have u0 := (HAl.out.cell (p := ⟨bx, ox + (k - 1) * 5, none⟩) hbx4).trans ((HCp.out (k - 1) hk1).1)
      rw [hpn] at u0
      have hR : risesAt ps k = Op.bytesLess pn.data.toList nm.data.toList := rises_at (by omega) hlt (by rw [hpn]) (by rw [HY.out])
      have hkz : IntKind.i64.wrap ((k : Int) - 1) = ((k - 1 : Nat) : Int) := by rw [IntKind.wrap_i64]; omega
      have hkz0 : (0 : Int) ≤ ((k - 1 : Nat) : Int) := by omega
      have hkz1 : ((k - 1 : Nat) : Int) < (ps.length : Int) := by omega
      have HPn := Lib.hid hpn
      clear hpn hk0
      obtain ⟨ls, hls⟩ : ∃ b, Op.bytesLess pn.data.toList nm.data.toList = b := ⟨_, rfl⟩
      have hls2 : Op.bytesLess pn.toList nm.toList = ls := by rw [Lib.toList_data, Lib.toList_data]; exact hls
      rw [hls] at hR
      have HR := Lib.hid hR
      clear hR hls
      cases ls
      · have HF : Hid (mayB ps = false) := mayTo_no hlt (.inr HR.out)
        refine wp_region_held_drew (S := (fun w' => w'.cell? ⟨bx, ox + (k - 1) * 5, none⟩ = some (.string pn) ∧ w'.cell? ⟨B4, 0, none⟩ = some (.string nm) ∧ w'.cell? ⟨B4, 1, none⟩ = some (.int .i64 y.a) ∧ w'.cell? ⟨B4, 2, none⟩ = some (.int .i64 y.b) ∧ w'.cell? ⟨B4, 3, none⟩ = some (.int .i64 y.c) ∧ w'.cell? ⟨B4, 4, none⟩ = some (.string y.p) ∧ Below w4.heap.size w4 w')) (by kernel_rfl) (⟨u0, v0, v1, v2, v3, v4, hd0⟩) (fun hHeld => ?_)
        refine wpAnyH_take (i := 0) (v := ?_) rfl (by kernel_rfl) (by kernel_rfl) (by kernel_rfl) (fun _ _ _ h => h) (Or.inl ⟨by kernel_rfl, ?_⟩) hHeld ?_
        rotate_left
        · (intro W hSw; (try dsimp only at hSw); go_simp; (try with_reducible rfl))
        (try simp only [Act.put, List.getElem_toArray, List.getElem_cons_zero, List.setIfInBounds_toArray, List.set_cons_succ, List.set_cons_zero])
        refine wpAnyH_take (i := 1) (v := ?_) rfl (by kernel_rfl) (by kernel_rfl) (by kernel_rfl) (fun _ _ _ h => h) (Or.inl ⟨by kernel_rfl, ?_⟩) hHeld ?_
        rotate_left
        · (intro W hSw; (try dsimp only at hSw); go_simp; (try with_reducible rfl))
        (try simp only [Act.put, List.getElem_toArray, List.getElem_cons_succ, List.getElem_cons_zero, List.setIfInBounds_toArray, List.set_cons_succ, List.set_cons_zero])
        refine wpAnyH_ready (rs := [2]) (by kernel_rfl) (by simp) ?_
        refine AllReadyH.cons rfl (fun K hK => ?_) AllReadyH.nil
        go_simp
        refine (HN.out _).mono ?_
        rintro e w5 ⟨rfl, rfl⟩
        refine hK.out _ _ (hHeld) (fun hHeld => ?_)
        clear hK K
        (try simp only [Act.put, List.getElem_toArray, List.getElem_cons_succ, List.getElem_cons_zero, List.setIfInBounds_toArray, List.set_cons_succ, List.set_cons_zero])
        refine wpAnyH_take (i := 3) (v := ?_) rfl (by kernel_rfl) (by kernel_rfl) (by kernel_rfl) (fun _ _ _ h => h) (Or.inl ⟨by kernel_rfl, ?_⟩) hHeld ?_
        rotate_left
        · (intro W hSw; (try dsimp only at hSw); go_simp; (try with_reducible rfl))
        (try simp only [Act.put, List.getElem_toArray, List.getElem_cons_succ, List.getElem_cons_zero, List.setIfInBounds_toArray, List.set_cons_succ, List.set_cons_zero])
        refine wpAnyH_take (i := 4) (v := ?_) rfl (by kernel_rfl) (by kernel_rfl) (by kernel_rfl) (fun _ _ _ h => h) (Or.inl ⟨by kernel_rfl, ?_⟩) hHeld ?_
        rotate_left
        · (intro W hSw; (try dsimp only at hSw); go_simp; (try with_reducible rfl))
        (try simp only [Act.put, List.getElem_toArray, List.getElem_cons_succ, List.getElem_cons_zero, List.setIfInBounds_toArray, List.set_cons_succ, List.set_cons_zero])
        refine wpAnyH_take (i := 5) (v := ?_) rfl (by kernel_rfl) (by kernel_rfl) (by kernel_rfl) (fun _ _ _ h => h) (Or.inl ⟨by kernel_rfl, ?_⟩) hHeld ?_
        rotate_left
        · (intro W hSw; (try dsimp only at hSw); go_simp; (try with_reducible rfl))
        (try simp only [Act.put, List.getElem_toArray, List.getElem_cons_succ, List.getElem_cons_zero, List.setIfInBounds_toArray, List.set_cons_succ, List.set_cons_zero])
        refine wpAnyH_take (i := 6) (v := ?_) rfl (by kernel_rfl) (by kernel_rfl) (by kernel_rfl) (fun _ _ _ h => h) (Or.inl ⟨by kernel_rfl, ?_⟩) hHeld ?_
        rotate_left
        · (intro W hSw; (try dsimp only at hSw); go_simp; (try with_reducible rfl))
        (try simp only [Act.put, List.getElem_toArray, List.getElem_cons_succ, List.getElem_cons_zero, List.setIfInBounds_toArray, List.set_cons_succ, List.set_cons_zero])
        refine wpAnyH_ready (rs := [7]) (by kernel_rfl) (by simp) ?_
        refine AllReadyH.cons rfl (fun K hK => ?_) AllReadyH.nil
        go_simp
        refine (keepK6 w4 _ bx (ox + (k - 1) * 5) B4 _ _ _ _ _ _ hHeld (HK.out _ (HE4.out.below hHeld.2.2.2.2.2.2))).mono ?_
        rintro e w6 ⟨rfl, hk6⟩
        refine hK.out _ _ (hk6) (fun hHeld => ?_)
        clear hK K
        (try simp only [Act.put, List.getElem_toArray, List.getElem_cons_succ, List.getElem_cons_zero, List.setIfInBounds_toArray, List.set_cons_succ, List.set_cons_zero])
        refine wpAnyH_take (i := 8) (v := ?_) rfl (by kernel_rfl) (by kernel_rfl) (by kernel_rfl) (fun _ _ _ h => h) (Or.inl ⟨by kernel_rfl, ?_⟩) hHeld ?_
        rotate_left
        · (intro W hSw; (try dsimp only at hSw); go_simp; (try with_reducible rfl))
        (try simp only [Act.put, List.getElem_toArray, List.getElem_cons_succ, List.getElem_cons_zero, List.setIfInBounds_toArray, List.set_cons_succ, List.set_cons_zero])
        refine wpAnyH_take (i := 9) (v := ?_) rfl (by kernel_rfl) (by kernel_rfl) (by kernel_rfl) (fun _ _ _ h => h) (Or.inl ⟨by kernel_rfl, ?_⟩) hHeld ?_
        rotate_left
        · (intro W hSw; (try dsimp only at hSw); go_simp; (try with_reducible rfl))
        (try simp only [Act.put, List.getElem_toArray, List.getElem_cons_succ, List.getElem_cons_zero, List.setIfInBounds_toArray, List.set_cons_succ, List.set_cons_zero])
        refine wpAnyH_take (i := 10) (v := ?_) rfl (by kernel_rfl) (by kernel_rfl) (by kernel_rfl) (fun _ _ _ h => h) (Or.inl ⟨by kernel_rfl, ?_⟩) hHeld ?_
        rotate_left
        · (intro W hSw; (try dsimp only at hSw); go_simp; (try with_reducible rfl))
        (try simp only [Act.put, List.getElem_toArray, List.getElem_cons_succ, List.getElem_cons_zero, List.setIfInBounds_toArray, List.set_cons_succ, List.set_cons_zero])
        refine wpAnyH_take (i := 11) (v := ?_) rfl (by kernel_rfl) (by kernel_rfl) (by kernel_rfl) (fun _ _ _ h => h) (Or.inl ⟨by kernel_rfl, ?_⟩) hHeld ?_
        rotate_left
        · (intro W hSw; (try dsimp only at hSw); go_simp; (try with_reducible rfl))
        (try simp only [Act.put, List.getElem_toArray, List.getElem_cons_succ, List.getElem_cons_zero, List.setIfInBounds_toArray, List.set_cons_succ, List.set_cons_zero])
        refine wpAnyH_take (i := 12) (v := ?_) rfl (by kernel_rfl) (by kernel_rfl) (by kernel_rfl) (fun _ _ _ h => h) (Or.inl ⟨by kernel_rfl, ?_⟩) hHeld ?_
        rotate_left
        · (intro W hSw; (try dsimp only at hSw); go_simp; (try with_reducible rfl))
        (try simp only [Act.put, List.getElem_toArray, List.getElem_cons_succ, List.getElem_cons_zero, List.setIfInBounds_toArray, List.set_cons_succ, List.set_cons_zero])
        refine wpAnyH_take (i := 13) (v := ?_) rfl (by kernel_rfl) (by kernel_rfl) (by kernel_rfl) (fun _ _ _ h => h) (Or.inl ⟨by kernel_rfl, ?_⟩) hHeld ?_
        rotate_left
        · (intro W hSw; (try dsimp only at hSw); go_simp; (try with_reducible rfl))
        (try simp only [Act.put, List.getElem_toArray, List.getElem_cons_succ, List.getElem_cons_zero, List.setIfInBounds_toArray, List.set_cons_succ, List.set_cons_zero])
        refine wpAnyH_take (i := 14) (v := ?_) rfl (by kernel_rfl) (by kernel_rfl) (by kernel_rfl) (fun _ _ _ h => h) (Or.inl ⟨by kernel_rfl, ?_⟩) hHeld ?_
        rotate_left
        · (intro W hSw; (try dsimp only at hSw); go_simp; (try with_reducible rfl))
        (try simp only [Act.put, List.getElem_toArray, List.getElem_cons_succ, List.getElem_cons_zero, List.setIfInBounds_toArray, List.set_cons_succ, List.set_cons_zero])
        refine wpAnyH_take (i := 15) (v := ?_) rfl (by kernel_rfl) (by kernel_rfl) (by kernel_rfl) (fun _ _ _ h => h) (Or.inl ⟨by kernel_rfl, ?_⟩) hHeld ?_
        rotate_left
        · (intro W hSw; (try dsimp only at hSw); go_simp; (try with_reducible rfl))
        (try simp only [Act.put, List.getElem_toArray, List.getElem_cons_succ, List.getElem_cons_zero, List.setIfInBounds_toArray, List.set_cons_succ, List.set_cons_zero])
        refine wpAnyH_take (i := 16) (v := ?_) rfl (by kernel_rfl) (by kernel_rfl) (by kernel_rfl) (fun _ _ _ h => h) (Or.inl ⟨by kernel_rfl, ?_⟩) hHeld ?_
        rotate_left
        · (intro W hSw; (try dsimp only at hSw); go_simp; (try with_reducible rfl))
        (try simp only [Act.put, List.getElem_toArray, List.getElem_cons_succ, List.getElem_cons_zero, List.setIfInBounds_toArray, List.set_cons_succ, List.set_cons_zero])
        refine wpAnyH_take (i := 17) (v := ?_) rfl (by kernel_rfl) (by kernel_rfl) (by kernel_rfl) (fun _ _ _ h => h) (Or.inl ⟨by kernel_rfl, ?_⟩) hHeld ?_
        rotate_left
        · (intro W hSw; (try dsimp only at hSw); go_simp; (try with_reducible rfl))
        (try simp only [Act.put, List.getElem_toArray, List.getElem_cons_succ, List.getElem_cons_zero, List.setIfInBounds_toArray, List.set_cons_succ, List.set_cons_zero])
        refine wpAnyH_take (i := 18) (v := ?_) rfl (by kernel_rfl) (by kernel_rfl) (by kernel_rfl) (fun _ _ _ h => h) (Or.inl ⟨by kernel_rfl, ?_⟩) hHeld ?_
        rotate_left
        · (intro W hSw; (try dsimp only at hSw); go_simp; (try with_reducible rfl))
        (try simp only [Act.put, List.getElem_toArray, List.getElem_cons_succ, List.getElem_cons_zero, List.setIfInBounds_toArray, List.set_cons_succ, List.set_cons_zero])
        refine wpAnyH_take (i := 19) (v := ?_) rfl (by kernel_rfl) (by kernel_rfl) (by kernel_rfl) (fun _ _ _ h => h) (Or.inl ⟨by kernel_rfl, ?_⟩) hHeld ?_
        rotate_left
        · (intro W hSw; (try dsimp only at hSw); go_simp; (try with_reducible rfl))
        (try simp only [Act.put, List.getElem_toArray, List.getElem_cons_succ, List.getElem_cons_zero, List.setIfInBounds_toArray, List.set_cons_succ, List.set_cons_zero])
        refine wpAnyH_take (i := 20) (v := ?_) rfl (by kernel_rfl) (by kernel_rfl) (by kernel_rfl) (fun _ _ _ h => h) (Or.inl ⟨by kernel_rfl, ?_⟩) hHeld ?_
        rotate_left
        · (intro W hSw; (try dsimp only at hSw); go_simp; (try with_reducible rfl))
        (try simp only [Act.put, List.getElem_toArray, List.getElem_cons_succ, List.getElem_cons_zero, List.setIfInBounds_toArray, List.set_cons_succ, List.set_cons_zero])
        refine wpAnyH_take (i := 21) (v := ?_) rfl (by kernel_rfl) (by kernel_rfl) (by kernel_rfl) (fun _ _ _ h => h) (Or.inl ⟨by kernel_rfl, ?_⟩) hHeld ?_
        rotate_left
        · (intro W hSw; (try dsimp only at hSw); go_simp; (try with_reducible rfl))
        (try simp only [Act.put, List.getElem_toArray, List.getElem_cons_succ, List.getElem_cons_zero, List.setIfInBounds_toArray, List.set_cons_succ, List.set_cons_zero])
        refine wpAnyH_take (i := 22) (v := ?_) rfl (by kernel_rfl) (by kernel_rfl) (by kernel_rfl) (fun _ _ _ h => h) (Or.inl ⟨by kernel_rfl, ?_⟩) hHeld ?_
        rotate_left
        · (intro W hSw; (try dsimp only at hSw); go_simp; (try with_reducible rfl))
        (try simp only [Act.put, List.getElem_toArray, List.getElem_cons_succ, List.getElem_cons_zero, List.setIfInBounds_toArray, List.set_cons_succ, List.set_cons_zero])
        refine wpAnyH_take (i := 23) (v := ?_) rfl (by kernel_rfl) (by kernel_rfl) (by kernel_rfl) (fun _ _ _ h => h) (Or.inl ⟨by kernel_rfl, ?_⟩) hHeld ?_
        rotate_left
        · (intro W hSw; (try dsimp only at hSw); go_simp; (try with_reducible rfl))
        (try simp only [Act.put, List.getElem_toArray, List.getElem_cons_succ, List.getElem_cons_zero, List.setIfInBounds_toArray, List.set_cons_succ, List.set_cons_zero])
        refine wpAnyH_take (i := 24) (v := ?_) rfl (by kernel_rfl) (by kernel_rfl) (by kernel_rfl) (fun _ _ _ h => h) (Or.inl ⟨by kernel_rfl, ?_⟩) hHeld ?_
        rotate_left
        · (intro W hSw; (try dsimp only at hSw); go_simp; (try with_reducible rfl))
        (try simp only [Act.put, List.getElem_toArray, List.getElem_cons_succ, List.getElem_cons_zero, List.setIfInBounds_toArray, List.set_cons_succ, List.set_cons_zero])
        refine wpAnyH_done (by kernel_rfl) ?_ _
        have hbF := below_then hb5 hHeld.2.2.2.2.2.2
        clear hHeld
        go_wp2_with fail
        go_ret
        exact ⟨by rw [HF.out]; rfl, hbF⟩
      · have HS : Hid (mayTo ps (k + 1) = true) := mayTo_succ hlt HA.out HOk.out HR.out
        refine wp_region_held_drew (S := (fun w' => w'.cell? ⟨bx, ox + (k - 1) * 5, none⟩ = some (.string pn) ∧ w'.cell? ⟨B4, 0, none⟩ = some (.string nm) ∧ w'.cell? ⟨B4, 1, none⟩ = some (.int .i64 y.a) ∧ w'.cell? ⟨B4, 2, none⟩ = some (.int .i64 y.b) ∧ w'.cell? ⟨B4, 3, none⟩ = some (.int .i64 y.c) ∧ w'.cell? ⟨B4, 4, none⟩ = some (.string y.p) ∧ Below w4.heap.size w4 w')) (by kernel_rfl) (⟨u0, v0, v1, v2, v3, v4, hd0⟩) (fun hHeld => ?_)
        refine wpAnyH_take (i := 0) (v := ?_) rfl (by kernel_rfl) (by kernel_rfl) (by kernel_rfl) (fun _ _ _ h => h) (Or.inl ⟨by kernel_rfl, ?_⟩) hHeld ?_
        rotate_left
        · (intro W hSw; (try dsimp only at hSw); go_simp; (try with_reducible rfl))
        (try simp only [Act.put, List.getElem_toArray, List.getElem_cons_zero, List.setIfInBounds_toArray, List.set_cons_succ, List.set_cons_zero])
        refine wpAnyH_take (i := 1) (v := ?_) rfl (by kernel_rfl) (by kernel_rfl) (by kernel_rfl) (fun _ _ _ h => h) (Or.inl ⟨by kernel_rfl, ?_⟩) hHeld ?_
        rotate_left
        · (intro W hSw; (try dsimp only at hSw); go_simp; (try with_reducible rfl))
        (try simp only [Act.put, List.getElem_toArray, List.getElem_cons_succ, List.getElem_cons_zero, List.setIfInBounds_toArray, List.set_cons_succ, List.set_cons_zero])
        refine wpAnyH_ready (rs := [2]) (by kernel_rfl) (by simp) ?_
        refine AllReadyH.cons rfl (fun K hK => ?_) AllReadyH.nil
        go_simp
        refine (HN.out _).mono ?_
        rintro e w5 ⟨rfl, rfl⟩
        refine hK.out _ _ (hHeld) (fun hHeld => ?_)
        clear hK K
        (try simp only [Act.put, List.getElem_toArray, List.getElem_cons_succ, List.getElem_cons_zero, List.setIfInBounds_toArray, List.set_cons_succ, List.set_cons_zero])
        refine wpAnyH_take (i := 3) (v := ?_) rfl (by kernel_rfl) (by kernel_rfl) (by kernel_rfl) (fun _ _ _ h => h) (Or.inl ⟨by kernel_rfl, ?_⟩) hHeld ?_
        rotate_left
        · (intro W hSw; (try dsimp only at hSw); go_simp; (try with_reducible rfl))
        (try simp only [Act.put, List.getElem_toArray, List.getElem_cons_succ, List.getElem_cons_zero, List.setIfInBounds_toArray, List.set_cons_succ, List.set_cons_zero])
        refine wpAnyH_take (i := 4) (v := ?_) rfl (by kernel_rfl) (by kernel_rfl) (by kernel_rfl) (fun _ _ _ h => h) (Or.inl ⟨by kernel_rfl, ?_⟩) hHeld ?_
        rotate_left
        · (intro W hSw; (try dsimp only at hSw); go_simp; (try with_reducible rfl))
        (try simp only [Act.put, List.getElem_toArray, List.getElem_cons_succ, List.getElem_cons_zero, List.setIfInBounds_toArray, List.set_cons_succ, List.set_cons_zero])
        refine wpAnyH_take (i := 5) (v := ?_) rfl (by kernel_rfl) (by kernel_rfl) (by kernel_rfl) (fun _ _ _ h => h) (Or.inl ⟨by kernel_rfl, ?_⟩) hHeld ?_
        rotate_left
        · (intro W hSw; (try dsimp only at hSw); go_simp; (try with_reducible rfl))
        (try simp only [Act.put, List.getElem_toArray, List.getElem_cons_succ, List.getElem_cons_zero, List.setIfInBounds_toArray, List.set_cons_succ, List.set_cons_zero])
        refine wpAnyH_take (i := 6) (v := ?_) rfl (by kernel_rfl) (by kernel_rfl) (by kernel_rfl) (fun _ _ _ h => h) (Or.inl ⟨by kernel_rfl, ?_⟩) hHeld ?_
        rotate_left
        · (intro W hSw; (try dsimp only at hSw); go_simp; (try with_reducible rfl))
        (try simp only [Act.put, List.getElem_toArray, List.getElem_cons_succ, List.getElem_cons_zero, List.setIfInBounds_toArray, List.set_cons_succ, List.set_cons_zero])
        refine wpAnyH_ready (rs := [7]) (by kernel_rfl) (by simp) ?_
        refine AllReadyH.cons rfl (fun K hK => ?_) AllReadyH.nil
        go_simp
        refine (keepK6 w4 _ bx (ox + (k - 1) * 5) B4 _ _ _ _ _ _ hHeld (HK.out _ (HE4.out.below hHeld.2.2.2.2.2.2))).mono ?_
        rintro e w6 ⟨rfl, hk6⟩
        refine hK.out _ _ (hk6) (fun hHeld => ?_)
        clear hK K
        (try simp only [Act.put, List.getElem_toArray, List.getElem_cons_succ, List.getElem_cons_zero, List.setIfInBounds_toArray, List.set_cons_succ, List.set_cons_zero])
        refine wpAnyH_take (i := 8) (v := ?_) rfl (by kernel_rfl) (by kernel_rfl) (by kernel_rfl) (fun _ _ _ h => h) (Or.inl ⟨by kernel_rfl, ?_⟩) hHeld ?_
        rotate_left
        · (intro W hSw; (try dsimp only at hSw); go_simp; (try with_reducible rfl))
        (try simp only [Act.put, List.getElem_toArray, List.getElem_cons_succ, List.getElem_cons_zero, List.setIfInBounds_toArray, List.set_cons_succ, List.set_cons_zero])
        refine wpAnyH_take (i := 9) (v := ?_) rfl (by kernel_rfl) (by kernel_rfl) (by kernel_rfl) (fun _ _ _ h => h) (Or.inl ⟨by kernel_rfl, ?_⟩) hHeld ?_
        rotate_left
        · (intro W hSw; (try dsimp only at hSw); go_simp; (try with_reducible rfl))
        (try simp only [Act.put, List.getElem_toArray, List.getElem_cons_succ, List.getElem_cons_zero, List.setIfInBounds_toArray, List.set_cons_succ, List.set_cons_zero])
        refine wpAnyH_take (i := 10) (v := ?_) rfl (by kernel_rfl) (by kernel_rfl) (by kernel_rfl) (fun _ _ _ h => h) (Or.inl ⟨by kernel_rfl, ?_⟩) hHeld ?_
        rotate_left
        · (intro W hSw; (try dsimp only at hSw); go_simp; (try with_reducible rfl))
        (try simp only [Act.put, List.getElem_toArray, List.getElem_cons_succ, List.getElem_cons_zero, List.setIfInBounds_toArray, List.set_cons_succ, List.set_cons_zero])
        refine wpAnyH_take (i := 11) (v := ?_) rfl (by kernel_rfl) (by kernel_rfl) (by kernel_rfl) (fun _ _ _ h => h) (Or.inl ⟨by kernel_rfl, ?_⟩) hHeld ?_
        rotate_left
        · (intro W hSw; (try dsimp only at hSw); go_simp; (try with_reducible rfl))
        (try simp only [Act.put, List.getElem_toArray, List.getElem_cons_succ, List.getElem_cons_zero, List.setIfInBounds_toArray, List.set_cons_succ, List.set_cons_zero])
        refine wpAnyH_take (i := 12) (v := ?_) rfl (by kernel_rfl) (by kernel_rfl) (by kernel_rfl) (fun _ _ _ h => h) (Or.inl ⟨by kernel_rfl, ?_⟩) hHeld ?_
        rotate_left
        · (intro W hSw; (try dsimp only at hSw); go_simp; (try with_reducible rfl))
        (try simp only [Act.put, List.getElem_toArray, List.getElem_cons_succ, List.getElem_cons_zero, List.setIfInBounds_toArray, List.set_cons_succ, List.set_cons_zero])
        refine wpAnyH_take (i := 13) (v := ?_) rfl (by kernel_rfl) (by kernel_rfl) (by kernel_rfl) (fun _ _ _ h => h) (Or.inl ⟨by kernel_rfl, ?_⟩) hHeld ?_
        rotate_left
        · (intro W hSw; (try dsimp only at hSw); go_simp; (try with_reducible rfl))
        (try simp only [Act.put, List.getElem_toArray, List.getElem_cons_succ, List.getElem_cons_zero, List.setIfInBounds_toArray, List.set_cons_succ, List.set_cons_zero])
        refine wpAnyH_take (i := 14) (v := ?_) rfl (by kernel_rfl) (by kernel_rfl) (by kernel_rfl) (fun _ _ _ h => h) (Or.inl ⟨by kernel_rfl, ?_⟩) hHeld ?_
        rotate_left
        · (intro W hSw; (try dsimp only at hSw); go_simp; (try with_reducible rfl))
        (try simp only [Act.put, List.getElem_toArray, List.getElem_cons_succ, List.getElem_cons_zero, List.setIfInBounds_toArray, List.set_cons_succ, List.set_cons_zero])
        refine wpAnyH_take (i := 15) (v := ?_) rfl (by kernel_rfl) (by kernel_rfl) (by kernel_rfl) (fun _ _ _ h => h) (Or.inl ⟨by kernel_rfl, ?_⟩) hHeld ?_
        rotate_left
        · (intro W hSw; (try dsimp only at hSw); go_simp; (try with_reducible rfl))
        (try simp only [Act.put, List.getElem_toArray, List.getElem_cons_succ, List.getElem_cons_zero, List.setIfInBounds_toArray, List.set_cons_succ, List.set_cons_zero])
        refine wpAnyH_take (i := 16) (v := ?_) rfl (by kernel_rfl) (by kernel_rfl) (by kernel_rfl) (fun _ _ _ h => h) (Or.inl ⟨by kernel_rfl, ?_⟩) hHeld ?_
        rotate_left
        · (intro W hSw; (try dsimp only at hSw); go_simp; (try with_reducible rfl))
        (try simp only [Act.put, List.getElem_toArray, List.getElem_cons_succ, List.getElem_cons_zero, List.setIfInBounds_toArray, List.set_cons_succ, List.set_cons_zero])
        refine wpAnyH_take (i := 17) (v := ?_) rfl (by kernel_rfl) (by kernel_rfl) (by kernel_rfl) (fun _ _ _ h => h) (Or.inl ⟨by kernel_rfl, ?_⟩) hHeld ?_
        rotate_left
        · (intro W hSw; (try dsimp only at hSw); go_simp; (try with_reducible rfl))
        (try simp only [Act.put, List.getElem_toArray, List.getElem_cons_succ, List.getElem_cons_zero, List.setIfInBounds_toArray, List.set_cons_succ, List.set_cons_zero])
        refine wpAnyH_take (i := 18) (v := ?_) rfl (by kernel_rfl) (by kernel_rfl) (by kernel_rfl) (fun _ _ _ h => h) (Or.inl ⟨by kernel_rfl, ?_⟩) hHeld ?_
        rotate_left
        · (intro W hSw; (try dsimp only at hSw); go_simp; (try with_reducible rfl))
        (try simp only [Act.put, List.getElem_toArray, List.getElem_cons_succ, List.getElem_cons_zero, List.setIfInBounds_toArray, List.set_cons_succ, List.set_cons_zero])
        refine wpAnyH_take (i := 19) (v := ?_) rfl (by kernel_rfl) (by kernel_rfl) (by kernel_rfl) (fun _ _ _ h => h) (Or.inl ⟨by kernel_rfl, ?_⟩) hHeld ?_
        rotate_left
        · (intro W hSw; (try dsimp only at hSw); go_simp; (try with_reducible rfl))
        (try simp only [Act.put, List.getElem_toArray, List.getElem_cons_succ, List.getElem_cons_zero, List.setIfInBounds_toArray, List.set_cons_succ, List.set_cons_zero])
        refine wpAnyH_take (i := 20) (v := ?_) rfl (by kernel_rfl) (by kernel_rfl) (by kernel_rfl) (fun _ _ _ h => h) (Or.inl ⟨by kernel_rfl, ?_⟩) hHeld ?_
        rotate_left
        · (intro W hSw; (try dsimp only at hSw); go_simp; (try with_reducible rfl))
        (try simp only [Act.put, List.getElem_toArray, List.getElem_cons_succ, List.getElem_cons_zero, List.setIfInBounds_toArray, List.set_cons_succ, List.set_cons_zero])
        refine wpAnyH_take (i := 21) (v := ?_) rfl (by kernel_rfl) (by kernel_rfl) (by kernel_rfl) (fun _ _ _ h => h) (Or.inl ⟨by kernel_rfl, ?_⟩) hHeld ?_
        rotate_left
        · (intro W hSw; (try dsimp only at hSw); go_simp; (try with_reducible rfl))
        (try simp only [Act.put, List.getElem_toArray, List.getElem_cons_succ, List.getElem_cons_zero, List.setIfInBounds_toArray, List.set_cons_succ, List.set_cons_zero])
        refine wpAnyH_take (i := 22) (v := ?_) rfl (by kernel_rfl) (by kernel_rfl) (by kernel_rfl) (fun _ _ _ h => h) (Or.inl ⟨by kernel_rfl, ?_⟩) hHeld ?_
        rotate_left
        · (intro W hSw; (try dsimp only at hSw); go_simp; (try with_reducible rfl))
        (try simp only [Act.put, List.getElem_toArray, List.getElem_cons_succ, List.getElem_cons_zero, List.setIfInBounds_toArray, List.set_cons_succ, List.set_cons_zero])
        refine wpAnyH_take (i := 23) (v := ?_) rfl (by kernel_rfl) (by kernel_rfl) (by kernel_rfl) (fun _ _ _ h => h) (Or.inl ⟨by kernel_rfl, ?_⟩) hHeld ?_
        rotate_left
        · (intro W hSw; (try dsimp only at hSw); go_simp; (try with_reducible rfl))
        (try simp only [Act.put, List.getElem_toArray, List.getElem_cons_succ, List.getElem_cons_zero, List.setIfInBounds_toArray, List.set_cons_succ, List.set_cons_zero])
        refine wpAnyH_take (i := 24) (v := ?_) rfl (by kernel_rfl) (by kernel_rfl) (by kernel_rfl) (fun _ _ _ h => h) (Or.inl ⟨by kernel_rfl, ?_⟩) hHeld ?_
        rotate_left
        · (intro W hSw; (try dsimp only at hSw); go_simp; (try with_reducible rfl))
        (try simp only [Act.put, List.getElem_toArray, List.getElem_cons_succ, List.getElem_cons_zero, List.setIfInBounds_toArray, List.set_cons_succ, List.set_cons_zero])
        refine wpAnyH_done (by kernel_rfl) ?_ _
        have hbF := below_then hb5 hHeld.2.2.2.2.2.2
        clear hHeld
        go_wp2_with fail
        go_roundw
        case rel => exact ⟨k + 1, hlt, by go_num, HS.out, hbF⟩
        case measure => simp [intOf]; omega
    · have q5 : decide (k < ps.length) = false := decide_eq_false hlt
      have hkl : k = ps.length := by omega
      have HF : Hid (mayB ps = decide (ps.length ≤ 40)) := by
        show _ = _
        unfold mayB
        rw [← hkl, HA.out, Bool.true_and]
      clear hlt hkl
      by_cases h40 : ps.length ≤ 40
      · have q8 : decide ((ps.length : Int) ≤ 40) = true := decide_eq_true (by omega)
        have q9 : decide (ps.length ≤ 40) = true := decide_eq_true h40
        clear h40
        go_wp2_with fail
        go_ret
        exact ⟨by rw [HF.out, q9]; rfl, hb⟩
      · have q8 : decide ((ps.length : Int) ≤ 40) = false := decide_eq_false (by omega)
        have q9 : decide (ps.length ≤ 40) = false := decide_eq_false h40
        clear h40
        go_wp2_with fail
        go_ret
        exact ⟨by rw [HF.out, q9]; rfl, hb⟩
end Go.Proofs.YtboajinaiceekaaGreatDoor

namespace Go
open Go.RowKit
/-- a pick as a value -/
def Pik.val (p : Pik) : Value := .agg #[.string p.name, .int .i64 p.v.a, .int .i64 p.v.b, .int .i64 p.v.c, .string p.v.p]
theorem vshow_len {v : V4} (h : v.ok = true) : v.show.length ≤ 45 := by
  have b := verOk_bounds h
  exact showL_len (by omega) (by omega) (by omega) (by omega)
end Go
namespace Go.Proofs.YtboajinaiceekaaGreatDoor
open Go.RowKit
theorem showQ_any (v : V4) (h : v.ok = true) (T : ByteArray) (hT : S v.show = T) (w : World) (hE : Env w) :
    Calls Tryz.prog 71 #[.agg #[.int .i64 v.a, .int .i64 v.b, .int .i64 v.c, .string v.p]] w fun e w' => e = .returned (.tuple #[.string T, .int .i64 0]) ∧ Below w.heap.size w w' := by
  have hb := verOk_bounds h
  have e1 : ((v.a.toNat : Nat) : Int) = v.a := by omega
  have e2 : ((v.b.toNat : Nat) : Int) = v.b := by omega
  have e3 : ((v.c.toNat : Nat) : Int) = v.c := by omega
  have hv : verErr v.a v.b v.c v.p.data.toList = 0 := by unfold verErr; rw [if_pos (show verOk v.a v.b v.c v.p.data.toList = true from h)]
  have := show_yes v.a.toNat v.b.toNat v.c.toNat v.p w hE (by rw [Lib.size_eq]; omega) (by omega) (by omega) (by omega) (by rw [e1, e2, e3]; exact hv)
  rw [e1, e2, e3] at this
  rw [← hT]
  exact this
set_option maxRecDepth 100000 in
set_option maxHeartbeats 1000000 in
theorem version_as (nm : ByteArray) (v : V4) (h : v.ok = true) (T : ByteArray) (hT : S v.show = T) (w : World) (hE : Env w) :
    Calls Tryz.prog 42 #[.agg #[.string nm, .int .i64 v.a, .int .i64 v.b, .int .i64 v.c, .string v.p]] w fun e w' => e = .returned (.string T) ∧ Below w.heap.size w w' := by
  have HS := Lib.hid (fun W hW => showQ_any v h T hT W hW)
  have hW := (Below.refl w.heap.size w).alloc (Nat.le_refl _) (.cells #[.string nm, .int .i64 v.a, .int .i64 v.b, .int .i64 v.c, .string v.p] 47)
  have HE := Lib.hid (hE.below hW)
  clear h hT hE
  go_enter Tryz.func42, Tryz.ntmps42
  go_wp2_with fail
  refine (HS.out _ HE.out).mono ?_
  rintro e w1 ⟨rfl, hb1⟩
  have hb2 := below_then hW hb1
  go_wp2_with fail
  go_ret
  exact ⟨rfl, hb2⟩
set_option maxRecDepth 100000 in
set_option maxHeartbeats 1000000 in
theorem line_as (nm : ByteArray) (v : V4) (h : v.ok = true) (hn : nm.size ≤ 24) (L : ByteArray) (hL : S (Pik.line ⟨nm, v⟩) = L) (w : World) (hE : Env w) :
    Calls Tryz.prog 21 #[.agg #[.string nm, .int .i64 v.a, .int .i64 v.b, .int .i64 v.c, .string v.p]] w fun e w' => e = .returned (.string L) ∧ Below w.heap.size w w' := by
  obtain ⟨T, hT⟩ : ∃ T, S v.show = T := ⟨_, rfl⟩
  have hTs : T.size ≤ 45 := by rw [← hT, S_size]; exact vshow_len h
  have HV := Lib.hid (fun W hW => version_as nm v h T hT W hW)
  have HX : Hid (nm ++ ⟨#[32]⟩ ++ T = L) := by
    show _ = _
    rw [← hL, ← hT]; apply ByteArray.ext; apply Array.toList_inj.1; simp [S, Pik.line, Pik.nm]
  have r1 : ∀ W, (Op.stringOp .add nm ⟨#[32]⟩).run Tryz.prog W = .ok (.string (nm ++ ⟨#[32]⟩)) W := fun W => run_string_add_sum W _ _ (by rw [show (⟨#[32]⟩ : ByteArray).size = 1 from rfl]; omega)
  have r2 : ∀ W, (Op.stringOp .add (nm ++ ⟨#[32]⟩) T).run Tryz.prog W = .ok (.string (nm ++ ⟨#[32]⟩ ++ T)) W := fun W => run_string_add_sum W _ _ (by rw [ByteArray.size_append, show (⟨#[32]⟩ : ByteArray).size = 1 from rfl]; omega)
  have hW := (Below.refl w.heap.size w).alloc (Nat.le_refl _) (.cells #[.string nm, .int .i64 v.a, .int .i64 v.b, .int .i64 v.c, .string v.p] 47)
  obtain ⟨⟨v0, v1, v2, v3, v4⟩, _⟩ := box_five (Below.refl (w.heap.size + 1) (w.alloc (.cells #[.string nm, .int .i64 v.a, .int .i64 v.b, .int .i64 v.c, .string v.p] 47)))
  have HE := Lib.hid (hE.below hW)
  clear h hL hT hE
  go_enter Tryz.func21, Tryz.ntmps21
  go_wp2_with fail
  obtain ⟨B4, hB4⟩ : ∃ B4, w.heap.size = B4 := ⟨_, rfl⟩
  rw [hB4] at v0 v1 v2 v3 v4
  rw [hB4]
  have HB := Lib.hid hB4
  generalize w.alloc (.cells #[.string nm, .int .i64 v.a, .int .i64 v.b, .int .i64 v.c, .string v.p] 47) = w4 at v0 v1 v2 v3 v4 hW HE ⊢
  have hd0 : Below w4.heap.size w4 w4.drew := (Below.refl _ _).drew
  clear hB4
  go_region_held3 (fun w' => w'.cell? ⟨B4, 0, none⟩ = some (.string nm) ∧ w'.cell? ⟨B4, 1, none⟩ = some (.int .i64 v.a) ∧ w'.cell? ⟨B4, 2, none⟩ = some (.int .i64 v.b) ∧ w'.cell? ⟨B4, 3, none⟩ = some (.int .i64 v.c) ∧ w'.cell? ⟨B4, 4, none⟩ = some (.string v.p) ∧ Below w4.heap.size w4 w') (go_keep) ((go_at_call 42; refine (keepK5 w4 _ B4 _ _ _ _ _ (by assumption) (HV.out _ (HE.out.below (And.right (And.right (And.right (And.right (And.right (by assumption))))))))).mono ?_; rintro e w5 ⟨rfl, hk5⟩))
  all_goals
    have hbF := below_then hW hk5.2.2.2.2.2
    clear v0 v1 v2 v3 v4 hk5
    go_wp2_with fail
    go_ret
    exact ⟨by rw [← HX.out]; rfl, hbF⟩
end Go.Proofs.YtboajinaiceekaaGreatDoor

namespace Go
open Go.RowKit
theorem hexK_cons : ∀ (k n : Nat), hexK (k + 1) n = hexC (n / 16 ^ k % 16) :: hexK k n
  | 0, n => by simp [hexK]
  | k + 1, n => by
    rw [hexK, hexK_cons k (n / 16), List.cons_append]
    rw [show hexK k (n / 16) ++ [hexC (n % 16)] = hexK (k + 1) n from rfl, Nat.div_div_eq_div_mul, ← Nat.pow_succ']
theorem hex_all : ∀ d : Fin 16, (⟨#[48, 49, 50, 51, 52, 53, 54, 55, 56, 57, 97, 98, 99, 100, 101, 102]⟩ : ByteArray)[d.val]'(show d.val < 16 from d.isLt) = hexC d.val := by decide
theorem hex_at (d : Nat) (h : d < 16) : (⟨#[48, 49, 50, 51, 52, 53, 54, 55, 56, 57, 97, 98, 99, 100, 101, 102]⟩ : ByteArray)[d]'(show d < 16 from h) = hexC d := hex_all ⟨d, h⟩
/-- eight bytes, of which the last k are written -/
def dgRow (n k : Nat) : List UInt8 := List.replicate (8 - k) 0 ++ hexK k n
theorem dgRow_step {n k : Nat} (h : k < 8) : (dgRow n k).set (7 - k) (hexC (n / 16 ^ k % 16)) = dgRow n (k + 1) := by
  unfold dgRow
  rw [hexK_cons, show 8 - k = (7 - k) + 1 by omega, show 8 - (k + 1) = 7 - k by omega, List.replicate_succ', List.append_assoc, List.set_append_right _ _ (by simp)]
  simp
theorem dgRow_len (n k : Nat) (h : k ≤ 8) : (dgRow n k).length = 8 := by unfold dgRow; rw [List.length_append, List.length_replicate, hexK_length]; omega
end Go
namespace Go.Proofs.YtboajinaiceekaaGreatDoor
open Go.RowKit
theorem u8_info : (Tryz.prog.info? 5).map (fun i => (i.zero, i.size, i.bytes)) = some (some (.int .u8 0), 1, 1) := by kernel_rfl
theorem made8 : madeCells (Value.int IntKind.u8 0).cells (Int.toNat 8 * 1) = #[.int .u8 0, .int .u8 0, .int .u8 0, .int .u8 0, .int .u8 0, .int .u8 0, .int .u8 0, .int .u8 0] := by kernel_rfl
theorem make8 (w : World) : (Instr.makeSlice 39 (.int .i64 8) (.int .i64 8)).run Tryz.prog w = .ok (.slice (some ⟨w.heap.size, 0, none⟩) 8 8) (w.alloc (.cells #[.int .u8 0, .int .u8 0, .int .u8 0, .int .u8 0, .int .u8 0, .int .u8 0, .int .u8 0, .int .u8 0] 5)) := by
  obtain ⟨i0, hi, hz0, hz1, hz2⟩ := info_parts u8_info
  have h := run_make (P := Tryz.prog) w 39 5 i0 (.int .u8 0) Tryz.underlying39 hi hz0 .i64 .i64 8 8 (by decide) (by decide) (by rw [hz2]; decide) (by decide)
  rw [h, hz1, made8]
  rfl
theorem own_eight (w : World) (e : TypeId) : (w.alloc (.cells #[.int .u8 0, .int .u8 0, .int .u8 0, .int .u8 0, .int .u8 0, .int .u8 0, .int .u8 0, .int .u8 0] e)).ownsRow w.heap.size e 1 (.slice (some ⟨w.heap.size, 0, none⟩) 8 8) 8 (bytesV (dgRow 0 0)) :=
  ⟨rfl, .inr ⟨w.heap.size, 8, _, rfl, Nat.le_refl _, Below_heap_new w _, by decide, by decide, rfl, rfl⟩⟩
def DgRel (n : Nat) (w : World) (x i : Value) (wr : World) : Prop :=
  ∃ k m : Nat, k ≤ 8 ∧ i = .int .i64 (k : Int) ∧ x = .int .u32 (m : Int) ∧ n / 16 ^ k = m ∧ wr.ownsRow w.heap.size 5 1 (.slice (some ⟨w.heap.size, 0, none⟩) 8 8) 8 (bytesV (dgRow n k)) ∧ Below w.heap.size w wr
set_option maxRecDepth 100000 in
set_option maxHeartbeats 1000000 in
theorem ldigits_as (n : Nat) (hn : n < 4294967296) (w : World) :
    Calls Tryz.prog 22 #[.int .u32 (n : Int)] w fun e w' => e = .returned (.string (S (hexK 8 n))) ∧ Below w.heap.size w w' := by
  have hmk := make8
  go_enter Tryz.func22, Tryz.ntmps22
  go_wp2_with fail
  go_loopw [0, 8] (fun x i wr => DgRel n w x i wr) (fun _ i _ => 8 - (intOf i).toNat)
  case atStart => exact ⟨0, n, by omega, rfl, rfl, by simp, own_eight w _, (Below.refl _ _).alloc (Nat.le_refl _) _⟩
  case round =>
    obtain ⟨k, m, hk, rfl, rfl, hm, hown, hb⟩ := hrel
    have HO := Lib.hid hown
    have HM := Lib.hid hm
    have hml : m < 4294967296 := by rw [← hm]; exact Nat.lt_of_le_of_lt (Nat.div_le_self _ _) hn
    clear hown hm
    by_cases hlt : k < 8
    · obtain ⟨d, hd⟩ : ∃ d, m % 16 = d := ⟨_, rfl⟩
      have hd16 : d < 16 := by omega
      have hand : bits .and .u32 (m : Int) 15 = (d : Int) := by
        have := u32_and_nat m 15 hml (by decide)
        rw [show (15 : Nat) = 2 ^ 4 - 1 by decide, Nat.and_two_pow_sub_one_eq_mod, show (2 : Nat) ^ 4 = 16 by decide, hd] at this
        exact this
      have HD := Lib.hid hd
      clear hd
      have i7 : IntKind.i64.wrap (7 - (k : Int)) = ((7 - k : Nat) : Int) := by rw [IntKind.wrap_i64]; omega
      obtain ⟨x, hx⟩ : ∃ x, (bytesV (dgRow n k))[7 - k]? = some x := by
        have hl : 7 - k < (bytesV (dgRow n k)).length := by rw [bytesV_length, dgRow_len n k hk]; omega
        exact ⟨_, List.getElem?_eq_getElem hl⟩
      have c0 : wr.cell? ⟨w.heap.size, 7 - k, none⟩ = some x := by
        rw [← hx]; exact World.ownsRow.cellAt HO.out (7 - k) (by omega)
      have f0 : wr.frozen? ⟨w.heap.size, 7 - k, none⟩ = false := World.ownsRow.frozenAt HO.out (7 - k)
      have hz := cell_lt c0
      have j0 : (0 : Int) ≤ ((7 - k : Nat) : Int) := by omega
      have j1 : ((7 - k : Nat) : Int) < 8 := by omega
      clear hx
      go_wp2_with fail
      go_roundw
      case rel =>
        refine ⟨k + 1, m / 16, by omega, by go_num, by go_num, by rw [Nat.pow_succ, ← Nat.div_div_eq_div_mul, HM.out], ?_, hb.setCell (p := ⟨w.heap.size, 7 - k, none⟩) (Nat.le_refl _) _⟩
        have h1 := (World.ownsRow.stored HO.out (7 - k) (Value.int .u8 ((hexC d).toNat : Int))).1
        rw [show (bytesV (dgRow n k)).set (7 - k) (Value.int .u8 ((hexC d).toNat : Int)) = bytesV ((dgRow n k).set (7 - k) (hexC d)) by unfold bytesV; rw [List.map_set]] at h1
        rw [← dgRow_step hlt, HM.out, HD.out]
        rw [← hex_at d hd16] at h1 ⊢
        exact h1
      case measure => simp [intOf]; omega
    · have q5 : decide ((k : Int) < 8) = false := decide_eq_false (by omega)
      have q6 : decide (k < 8) = false := decide_eq_false hlt
      have hk8 : k = 8 := by omega
      have hc : (convert 39 9 (.slice (some ⟨w.heap.size, 0, none⟩) 8 8)).run Tryz.prog wr = .ok (.string (S (hexK 8 n))) wr := by
        have h := HO.out
        rw [hk8, show dgRow n 8 = hexK 8 n from rfl] at h
        exact conv_own (P := Tryz.prog) Tryz.underlying39 Tryz.underlying5 Tryz.underlying9 h
      clear hlt hk8
      go_wp2_with fail
      go_ret
      exact ⟨rfl, hb⟩
end Go.Proofs.YtboajinaiceekaaGreatDoor

namespace Go
open Go.RowKit
theorem pik_parts' {p : Pik} (h : p.ok = true) : nameOk p.nm = true ∧ p.v.ok = true := by unfold Pik.ok at h; simpa using h
theorem lineN_len {p : Pik} (h : p.ok = true) : (lineN p).length ≤ 71 := by
  obtain ⟨h1, h2⟩ := pik_parts' h
  have := (name_len h1).2.1
  have := vshow_len h2
  unfold lineN Pik.line
  simp only [List.length_append, List.length_cons, List.length_nil]
  omega
def shTo (ps : List Pik) (k : Nat) : List UInt8 := headL ++ ((ps.take k).map lineN).flatten
theorem shTo_succ {ps : List Pik} {k : Nat} (h : k < ps.length) : shTo ps (k + 1) = shTo ps k ++ lineN ps[k] := by
  unfold shTo
  rw [List.take_succ_eq_append_getElem h, List.map_append, List.flatten_append, List.append_assoc]
  simp
theorem shTo_len {ps : List Pik} (h : ∀ p ∈ ps, p.ok = true) : ∀ k, k ≤ ps.length → (shTo ps k).length ≤ 7 + 71 * k
  | 0, _ => by simp [shTo, headL]
  | k + 1, hk => by
    rw [shTo_succ (by omega), List.length_append]
    have := shTo_len h k (by omega)
    have := lineN_len (h ps[k] (List.getElem_mem _))
    omega
theorem shTo_all (ps : List Pik) : shTo ps ps.length = bodyL ps := by unfold shTo bodyL; rw [List.take_length]
theorem may_mem {ps : List Pik} (h : mayB ps = true) : (∀ p ∈ ps, p.ok = true) ∧ ps.length ≤ 40 := by
  unfold mayB at h
  rw [Bool.and_eq_true, decide_eq_true_eq] at h
  refine ⟨fun p hp => ?_, h.2⟩
  obtain ⟨k, hk, rfl⟩ := List.getElem_of_mem hp
  exact may_ok h.1 hk
end Go
namespace Go.Proofs.YtboajinaiceekaaGreatDoor
open Go.RowKit
theorem may_as (v : Value) (ps : List Pik) (r : Bool) (h : mayB ps = r) (w : World) (hv : Piks w v ps) (hE : Env w) (hp : ∀ x ∈ ps, x.v.p.size ≤ 300) :
    Calls Tryz.prog 20 #[v] w fun e w' => e = .returned (.bool r) ∧ Below w.heap.size w w' := by
  subst h; exact may_any v ps w hv hE hp
def LsRel (ps : List Pik) (w : World) (v i : Value) (wr : World) : Prop :=
  ∃ (k : Nat) (A : ByteArray), k ≤ ps.length ∧ i = .int .i64 (k : Int) ∧ v = .string A ∧ S (shTo ps k) = A ∧ Below w.heap.size w wr
set_option maxRecDepth 100000 in
set_option maxHeartbeats 2000000 in
theorem lshow_any (v : Value) (ps : List Pik) (w : World) (hv : Piks w v ps) (hE : Env w) (hp : ∀ x ∈ ps, x.v.p.size ≤ 300) :
    Calls Tryz.prog 11 #[v] w fun e w' => e = .returned (.tuple #[.string (S (lockShow ps).1), .int .i64 (lockShow ps).2]) ∧ Below w.heap.size w w' := by
  obtain ⟨r, hr⟩ : ∃ r, mayB ps = r := ⟨_, rfl⟩
  have HM := Lib.hid (may_as v ps r hr w hv hE hp)
  have HR := Lib.hid hr
  have hlen := hv.len
  have HV := Lib.hid hv
  have HE := Lib.hid hE
  clear hv hE hp hr
  obtain ⟨a0, cap0, rfl⟩ := hlen
  cases r
  · have HS : Hid (lockShow ps = ([], 370)) := by show _ = _; unfold lockShow; rw [HR.out]; rfl
    go_enter Tryz.func11, Tryz.ntmps11
    go_wp2_with fail
    refine HM.out.mono ?_
    rintro e w1 ⟨rfl, hb1⟩
    go_wp2_with fail
    go_ret2
    exact ⟨by rw [HS.out]; rfl, hb1⟩
  have hm := may_mem HR.out
  have hl40 := hm.2
  have HOk := Lib.hid hm.1
  clear hm
  have HS : Hid (lockShow ps = (lockL ps, 0)) := by show _ = _; unfold lockShow; rw [HR.out]; rfl
  go_enter Tryz.func11, Tryz.ntmps11
  go_wp2_with fail
  refine HM.out.mono ?_
  rintro e w1 ⟨rfl, hb1⟩
  have HV1 := Lib.hid (HV.out.below hb1 (Nat.le_refl _))
  have HE1 := Lib.hid (HE.out.below hb1)
  go_wp2_with fail
  go_loopw [4, 12] (fun v i wr => LsRel ps w1 v i wr) (fun _ i _ => ps.length - (intOf i).toNat)
  case atStart => exact ⟨0, _, Nat.zero_le _, rfl, rfl, rfl, Below.refl _ _⟩
  case round =>
    obtain ⟨k, A, hk, rfl, rfl, hA, hb⟩ := hrel
    have hAs : A.size ≤ 7 + 71 * k := by rw [← hA, S_size]; exact shTo_len HOk.out k hk
    have HA := Lib.hid hA
    clear hA
    by_cases hlt : k < ps.length
    · have i0 : (0 : Int) ≤ (k : Int) := by omega
      have i1 : (k : Int) < (ps.length : Int) := by omega
      obtain ⟨bx, ox, rfl, hbx, hc⟩ := HV1.out.row hb hlt
      obtain ⟨c0, c1, c2, c3, c4⟩ := hc k hlt
      obtain ⟨nm, y, hye⟩ : ∃ nm y, ps[k] = ⟨nm, y⟩ := ⟨_, _, rfl⟩
      have hok := HOk.out _ (List.getElem_mem hlt)
      rw [hye] at c0 c1 c2 c3 c4 hok
      simp only at c0 c1 c2 c3 c4
      obtain ⟨hn1, hv1⟩ := pik_parts' hok
      have hns : nm.size ≤ 24 := by have := (name_len hn1).2.1; rw [Lib.size_eq]; exact this
      obtain ⟨L, hL⟩ : ∃ L, S (Pik.line ⟨nm, y⟩) = L := ⟨_, rfl⟩
      have hLs : L.size ≤ 70 := by
        rw [← hL, S_size]
        have := lineN_len hok
        unfold lineN at this
        rw [List.length_append] at this
        simp at this; omega
      have HL := Lib.hid (fun W hW => line_as nm y hv1 hns L hL W hW)
      have HY := Lib.hid hye
      have HLe := Lib.hid hL
      have hbx2 := Nat.lt_of_lt_of_le hbx hb.size
      have hal := (Below.refl wr.heap.size wr).alloc (Nat.le_refl _) (.cells #[.string nm, .int .i64 y.a, .int .i64 y.b, .int .i64 y.c, .string y.p] 47)
      have r1 : ∀ W, (Op.stringOp .add L ⟨#[10]⟩).run Tryz.prog W = .ok (.string (L ++ ⟨#[10]⟩)) W := fun W => run_string_add_sum W _ _ (by rw [show (⟨#[10]⟩ : ByteArray).size = 1 from rfl]; omega)
      have r2 : ∀ W, (Op.stringOp .add A (L ++ ⟨#[10]⟩)).run Tryz.prog W = .ok (.string (A ++ (L ++ ⟨#[10]⟩))) W := fun W => run_string_add_sum W _ _ (by rw [ByteArray.size_append, show (⟨#[10]⟩ : ByteArray).size = 1 from rfl]; omega)
      clear hye hc hok hn1 hL hv1
      go_wp2_with fail
      refine (HL.out _ ((HE1.out.below hb).below hal)).mono ?_
      rintro e w3 ⟨rfl, hb3⟩
      have hb4 := below_then hb (below_then hal hb3)
      clear hal hb3 c0 c1 c2 c3 c4
      go_wp2_with fail
      go_roundw
      case rel =>
        refine ⟨k + 1, _, hlt, by go_num, rfl, ?_, hb4⟩
        rw [shTo_succ hlt, ← HA.out, HY.out, ← HLe.out]
        apply ByteArray.ext; apply Array.toList_inj.1; simp [S, lineN]
      case measure => simp [intOf]; omega
    · have q5 : decide (k < ps.length) = false := decide_eq_false hlt
      have hkl : k = ps.length := by omega
      have HA2 : Hid (S (bodyL ps) = A) := by show _ = _; rw [← HA.out, hkl, shTo_all]
      have hAs2 : A.size ≤ 3000 := by omega
      obtain ⟨n, hn⟩ : ∃ n, Crc.sum A.data.toList = n := ⟨_, rfl⟩
      have hnl : n < 4294967296 := by rw [← hn]; exact Crc.sum_lt _
      have HSm := Lib.hid (fun W T => sum1_new A (by omega) W T)
      rw [hn] at HSm
      have HN := Lib.hid hn
      obtain ⟨D, hD⟩ : ∃ D, S (hexK 8 n) = D := ⟨_, rfl⟩
      have hDs : D.size = 8 := by rw [← hD, S_size, hexK_length]
      have HDg := Lib.hid (fun W => ldigits_as n hnl W)
      rw [hD] at HDg
      have HD := Lib.hid hD
      have hal := (Below.refl wr.heap.size wr).alloc (Nat.le_refl _) (.cells #[.string A] 9)
      have r1 : ∀ W, (Op.stringOp .add A ⟨#[115, 117, 109, 32]⟩).run Tryz.prog W = .ok (.string (A ++ ⟨#[115, 117, 109, 32]⟩)) W := fun W => run_string_add_sum W _ _ (by rw [show (⟨#[115, 117, 109, 32]⟩ : ByteArray).size = 4 from rfl]; omega)
      have r2 : ∀ W, (Op.stringOp .add (A ++ ⟨#[115, 117, 109, 32]⟩) D).run Tryz.prog W = .ok (.string (A ++ ⟨#[115, 117, 109, 32]⟩ ++ D)) W := fun W => run_string_add_sum W _ _ (by rw [ByteArray.size_append, show (⟨#[115, 117, 109, 32]⟩ : ByteArray).size = 4 from rfl]; omega)
      have r3 : ∀ W, (Op.stringOp .add (A ++ ⟨#[115, 117, 109, 32]⟩ ++ D) ⟨#[10]⟩).run Tryz.prog W = .ok (.string (A ++ ⟨#[115, 117, 109, 32]⟩ ++ D ++ ⟨#[10]⟩)) W := fun W => run_string_add_sum W _ _ (by rw [ByteArray.size_append, ByteArray.size_append, show (⟨#[115, 117, 109, 32]⟩ : ByteArray).size = 4 from rfl, show (⟨#[10]⟩ : ByteArray).size = 1 from rfl]; omega)
      clear hlt hkl hn hD hAs hDs hnl
      go_wp2_with fail
      refine (HSm.out _ _).mono ?_
      rintro e w3 ⟨rfl, rfl⟩
      go_wp2_with fail
      refine (HDg.out _).mono ?_
      rintro e w4 ⟨rfl, hb4⟩
      have hb5 := below_then hb1 (below_then hb (below_then hal hb4))
      clear hal hb4
      go_wp2_with fail
      go_ret2
      refine ⟨?_, hb5⟩
      rw [HS.out]
      have hX : A ++ ⟨#[115, 117, 109, 32]⟩ ++ D ++ ⟨#[10]⟩ = S (lockL ps) := by
        rw [← HD.out, ← HN.out, ← HA2.out]
        apply ByteArray.ext; apply Array.toList_inj.1; simp [S, lockL, sumL]
      rw [← hX]
      rfl
end Go.Proofs.YtboajinaiceekaaGreatDoor
