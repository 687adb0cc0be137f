/- Solve: do these picks hold: the walk. -/
import Derived.Test.YtllkiedikjgkbaaGreatDoorSol9
import Derived.Test.YtllkiedikjgkbaaGreatDoorLockSame
namespace Go
open Go.RowKit
/-- a pick lies in a block -/
def PikAt (W : World) (b : Nat) (x : Pik) : Prop := W.cell? ⟨b, 0, none⟩ = some (.string x.name) ∧ W.cell? ⟨b, 1, none⟩ = some (.int .i64 x.v.a) ∧ W.cell? ⟨b, 2, none⟩ = some (.int .i64 x.v.b) ∧ W.cell? ⟨b, 3, none⟩ = some (.int .i64 x.v.c) ∧ W.cell? ⟨b, 4, none⟩ = some (.string x.v.p)
theorem PikAt.on {w w' : World} {b : Nat} {x : Pik} (h : PikAt w b x) (hb : Below w.heap.size w w') : PikAt w' b x := ⟨cell_on h.1 hb, cell_on h.2.1 hb, cell_on h.2.2.1 hb, cell_on h.2.2.2.1 hb, cell_on h.2.2.2.2 hb⟩
/-- the place of a version, as Go tells it -/
def idxI : Option Nat → Int
  | some a => (a : Int)
  | none => -1
theorem idxV_map (os : List DOff) (v : V4) : idxV (os.map DOff.po) v = os.findIdx? fun o => V4.same v o.v := by
  unfold idxV
  rw [List.findIdx?_map]; rfl
theorem idxV_hit {os : List DOff} {v : V4} {k : Nat} (hk : k < os.length) (h : V4.same v os[k].v = true) (hn : ∀ j (h : j < os.length), j < k → V4.same v os[j].v = false) : idxV (os.map DOff.po) v = some k := by
  rw [idxV_map, List.findIdx?_eq_some_iff_getElem]
  exact ⟨hk, h, fun j hj => by rw [hn j (by omega) hj]; exact Bool.false_ne_true⟩
theorem idxV_miss {os : List DOff} {v : V4} (hn : ∀ j (h : j < os.length), V4.same v os[j].v = false) : idxV (os.map DOff.po) v = none := by
  rw [idxV_map, List.findIdx?_eq_none_iff]
  intro o ho
  obtain ⟨j, hj, rfl⟩ := List.getElem_of_mem ho
  exact hn j hj
theorem findPk_miss {picks : List Pik} {nm : ByteArray} (h : ∀ u (h : u < picks.length), picks[u].name ≠ nm) : findPk picks nm = none := by
  unfold findPk
  rw [List.find?_eq_none]
  intro x hx hd
  obtain ⟨u, hu, rfl⟩ := List.getElem_of_mem hx
  exact h u hu (of_decide_eq_true hd)
theorem findPk_hit {picks : List Pik} {nm : ByteArray} {t : Nat} (ht : t < picks.length) (he : picks[t].name = nm) (h : ∀ u (h : u < picks.length), u < t → picks[u].name ≠ nm) : findPk picks nm = some picks[t] := by
  unfold findPk
  rw [List.find?_eq_some_iff_getElem]
  exact ⟨decide_eq_true he, t, ht, rfl, fun j hj => by rw [decide_eq_false (h j (by omega) hj)]; rfl⟩
theorem cntTo_hit {T : List PP} {picks : List Pik} {m : Nat} {x : Pik} (h : findPk picks (S (namL T m)) = some x) : cntTo T picks (m + 1) = cntTo T picks m + 1 := by rw [cntTo_succ, h]; rfl
theorem cntTo_miss {T : List PP} {picks : List Pik} {m : Nat} (h : findPk picks (S (namL T m)) = none) : cntTo T picks (m + 1) = cntTo T picks m := by rw [cntTo_succ, h]; rfl
theorem wayP_hit {ak : Nam → Bool} {picks : List Pik} {p : PP} {x : Pik} (h : findPk picks (S p.nm) = some x) : wayP ak picks p = idxV p.os x.v := by unfold wayP; rw [h]
theorem wayP_miss {ak : Nam → Bool} {picks : List Pik} {p : PP} (h : findPk picks (S p.nm) = none) : wayP ak picks p = if ak p.nm = true then none else some p.os.length := by unfold wayP; rw [h]
theorem no_way {T : List PP} {asked : Nam → Bool} {picks : List Pik} (hT : TabW T) (hV : TabV T) {m : Nat} (hm : m < T.length) (h : wayP asked picks T[m] = none) : ¬ HoldsIs T asked picks := fun hh => by
  obtain ⟨ws, hw, _, hway, _⟩ := holds_prog hT hV hh
  have h1 := hway m hm
  rw [h] at h1
  have h2 : m < ws.length := by rw [hw.1]; unfold ksOf; rw [List.length_map]; exact hm
  rw [List.getElem?_eq_getElem h2] at h1
  cases h1
theorem wayP_le {ak : Nam → Bool} {picks : List Pik} {p : PP} {a : Nat} (h : wayP ak picks p = some a) : a ≤ p.os.length := by
  unfold wayP at h
  split at h
  · obtain ⟨h1, _⟩ := idxV_some h
    omega
  · split at h
    · cases h
    · injection h with h
      omega
theorem holds_ws {T : List PP} {asked : Nam → Bool} {picks : List Pik} (hT : TabW T) (hV : TabV T) {ws : List Nat} (hl : ws.length = T.length) (hw : ∀ i (h : i < T.length), wayP asked picks T[i] = ws[i]?) (h : HoldsIs T asked picks) : GoodW T asked ws ∧ cntTo T picks T.length = picks.length := by
  obtain ⟨ws2, hw2, hg, hway, hc⟩ := holds_prog hT hV h
  have h2 : ws2.length = T.length := by rw [hw2.1]; unfold ksOf; rw [List.length_map]
  have : ws2 = ws := by
    refine List.ext_getElem? fun i => ?_
    by_cases hi : i < T.length
    · rw [← hway i hi, hw i hi]
    · rw [List.getElem?_eq_none (by omega), List.getElem?_eq_none (by omega)]
  subst this
  exact ⟨hg, hc⟩
end Go
namespace Go.Proofs.YtllkiedikjgkbaaGreatDoor
open Go.RowKit Go.Maps
set_option maxRecDepth 100000 in
set_option maxHeartbeats 1000000 in
theorem hold1_as (o : DOff) (x : Pik) (pn : ByteArray) (bx bp : Nat) (r : Bool) (hn : x.name = pn) (hr : V4.same x.v o.v = r) (w : World) (hc : PikAt w bx x) (hp : w.cell? ⟨bp, 0, none⟩ = some (.string pn)) :
    Calls Tryz.prog 72 #[.agg #[.int .i64 o.v.a, .int .i64 o.v.b, .int .i64 o.v.c, .string o.v.p, .bool o.y, o.nv], .pointer (some ⟨bx, 0, none⟩), .pointer (some ⟨bp, 0, none⟩)] w fun e w' => e = .returned (.bool r) ∧ Below w.heap.size w w' := by
  have hW := below_first (Below.refl (w.heap.size + 1) (w.alloc (.cells #[.int .i64 o.v.a, .int .i64 o.v.b, .int .i64 o.v.c, .string o.v.p, .bool o.y, o.nv] 39)))
  have r1 := fun W => pick_eq x.name x.v.a x.v.b x.v.c x.v.p pn o.v.a o.v.b o.v.c o.v.p r (by rw [← hr]; unfold V4.same; simp [hn]) W
  have hz := cell_lt hc.1
  have hzp := cell_lt hp
  obtain ⟨c0, c1, c2, c3, c4⟩ := hc.on hW
  have c5 := cell_on hp hW
  clear hc hr hp hn
  go_enter Tryz.func72, Tryz.ntmps72
  go_wp2_with fail
  go_ret
  exact ⟨rfl, hW⟩
def HiRel (os : List DOff) (v : V4) (w : World) (i : Value) (wr : World) : Prop :=
  ∃ k : Nat, k ≤ os.length ∧ i = .int .i64 (k : Int) ∧ (∀ j (h : j < os.length), j < k → V4.same v os[j].v = false) ∧ Below w.heap.size w wr
set_option maxRecDepth 100000 in
set_option maxHeartbeats 2000000 in
theorem holdIx_any (v : Value) (os : List DOff) (x : Pik) (pn : ByteArray) (bx bp : Nat) (hn : x.name = pn) (w : World) (hv : ORow w v os) (hc : PikAt w bx x) (hp : w.cell? ⟨bp, 0, none⟩ = some (.string pn)) :
    Calls Tryz.prog 71 #[v, .func (.func 72) #[] #[.pointer (some ⟨bx, 0, none⟩), .pointer (some ⟨bp, 0, none⟩)]] w fun e w' => e = .returned (.int .i64 (idxI (idxV (os.map DOff.po) x.v))) ∧ Below w.heap.size w w' := by
  obtain ⟨a0, cap0, rfl⟩ := hv.len.2
  have HV := Lib.hid hv
  have hmx : os.length ≤ 9223372036854775807 := Nat.le_trans hv.len.1 (by decide)
  have HC := Lib.hid (⟨hc, hp, hn⟩ : _ ∧ _ ∧ _)
  clear hv hc hp hn
  go_enter Tryz.func71, Tryz.ntmps71
  go_wp2_with fail
  go_loopw [8] (fun i wr => HiRel os x.v w i wr) (fun i _ => os.length - (intOf i).toNat)
  case atStart => exact ⟨0, Nat.zero_le _, rfl, fun j _ h => absurd h (Nat.not_lt_zero _), Below.refl _ _⟩
  case round =>
    obtain ⟨k, hk, rfl, hall, hb⟩ := hrel
    have HA := Lib.hid hall
    clear hall
    by_cases hlt : k < os.length
    · have i0 : (0 : Int) ≤ (k : Int) := by omega
      have i1 : (k : Int) < (os.length : Int) := by omega
      obtain ⟨by', oy, rfl, hbx, c0, c1, c2, c3, c4, c5⟩ := HV.out.at' hb hlt
      obtain ⟨y, hye⟩ : ∃ y, os[k] = y := ⟨_, rfl⟩
      rw [hye] at c0 c1 c2 c3 c4 c5
      obtain ⟨r, hr⟩ : ∃ r, V4.same x.v y.v = r := ⟨_, rfl⟩
      have HF := Lib.hid (hold1_as y x pn bx bp r HC.out.2.2 hr _ (HC.out.1.on hb) (cell_on HC.out.2.1 hb))
      have HR : Hid (V4.same x.v os[k].v = r) := by show _ = _; rw [hye]; exact hr
      clear hr hye
      cases r
      · go_wp2_with fail
        refine HF.out.mono ?_
        rintro e w1 ⟨rfl, hb1⟩
        have hb2 := below_then hb hb1
        clear c0 c1 c2 c3 c4 c5 hb1
        go_wp2_with fail
        go_roundw
        case rel =>
          refine ⟨k + 1, hlt, by go_num, fun j h hj => ?_, hb2⟩
          by_cases hjk : j < k
          · exact HA.out j h hjk
          · have : j = k := by omega
            subst this
            exact HR.out
        case measure => simp [intOf]; omega
      · have HN : Hid (idxI (idxV (os.map DOff.po) x.v) = (k : Int)) := by show _ = _; rw [idxV_hit hlt HR.out HA.out]; rfl
        go_wp2_with fail
        refine HF.out.mono ?_
        rintro e w1 ⟨rfl, hb1⟩
        have hb2 := below_then hb hb1
        clear c0 c1 c2 c3 c4 c5 hb1
        go_wp2_with fail
        go_ret
        exact ⟨by rw [HN.out]; rfl, hb2⟩
    · have q5 : decide (k < os.length) = false := decide_eq_false hlt
      have HN : Hid (idxI (idxV (os.map DOff.po) x.v) = -1) := by show _ = _; rw [idxV_miss (fun j h => HA.out j h (by omega))]; rfl
      clear hlt
      go_wp2_with fail
      go_ret
      exact ⟨by rw [HN.out]; rfl, hb⟩
/-- whether picks hold -/
def HoldPost (lock : List Pik) (needs : List (Want × Value)) (ps : List DPack) (picks : List Pik) (w : World) (e : Ending) (w' : World) : Prop :=
  ∃ b, e = .returned (.bool b) ∧ (∃ ts, TableIs lock needs ps ts ∧ (b = true ↔ HoldsIs (ppL ts) (askN needs) picks)) ∧ Below w.heap.size w w'
def HlRel (k : SK) (picks : List Pik) (left i : Value) (wr : World) : Prop :=
  ∃ (m : Nat) (ws : List Nat), m ≤ k.ts.length ∧ i = .int .i64 (m : Int) ∧ left = .int .i64 ((picks.length : Int) - (cntTo k.T picks m : Nat)) ∧ Srch k wr ws 0 ∧ ∀ j, j < m → ∀ h : j < k.T.length, wayP k.ak picks k.T[j] = ws[j]?
def HjRel (picks : List Pik) (pn : ByteArray) (lv : Value) (wb : World) (l j : Value) (wr : World) : Prop :=
  ∃ t : Nat, t ≤ picks.length ∧ l = lv ∧ j = .int .i64 (t : Int) ∧ (∀ u (h : u < picks.length), u < t → picks[u].name ≠ pn) ∧ Below wb.heap.size wb wr
def HfRel (k : SK) (w3 : World) (ws : List Nat) (i : Value) (wr : World) : Prop :=
  ∃ m : Nat, m ≤ k.ts.length ∧ i = .int .i64 (m : Int) ∧ Below w3.heap.size w3 wr ∧ ∀ j, j < m → fitL k.T ws j = true
set_option maxRecDepth 100000 in
set_option maxHeartbeats 8000000 in
theorem solHolds_as {lock : List Pik} {needs : List (Want × Value)} {ps : List DPack} {pk lk nv xv : Value} {w : World} {picks : List Pik} (C : TabCtx lock needs ps pk lk nv w) (hB : ∀ ts, TableIs lock needs ps ts → TabB (ppL ts)) (hx : Piks w xv picks) (hxl : ∃ a cap, xv = .slice a picks.length cap) (hx6 : picks.length ≤ 1000000) :
    Calls Tryz.prog 29 #[pk, lk, nv, xv] w (HoldPost lock needs ps picks w) := by
  obtain ⟨xa, xc, rfl⟩ := hxl
  have HB := Lib.hid hB
  have hBg : Calls Tryz.prog 62 #[pk, lk, nv, .int .i64 1] w (BeginPost lock needs ps 1 w) := begin_as C HB.out 1 (by omega)
  have HBg := Lib.hid hBg
  have HX := Lib.hid hx
  clear C hB hx hBg
  go_enter Tryz.func29, Tryz.ntmps29
  go_wp2
  go_step3
  go_wp2_with fail
  refine HBg.out.mono ?_
  rintro e w2 ⟨k, rfl, hK, hkn, hkb, hkt, hkw, hS⟩
  have hak : k.ak = askN needs := by unfold SK.ak; rw [hkn]
  have HK := Lib.hid hK
  have HS := Lib.hid hS
  have HKs := Lib.hid (⟨hak, hkt, hkw⟩ : _ ∧ _ ∧ _)
  have hn6 : k.ts.length ≤ 1000000 := by have := hK.Bd.few; rwa [k.T_len] at this
  obtain ⟨c0, _⟩ := hS.cells
  clear hK hS hkn hkb hkt hkw hak
  go_wp2_with fail
  go_step3
  go_wp2_with fail
  go_loopw [10, 27] (fun l i wr => HlRel k picks l i wr) (fun _ i _ => k.ts.length - (intOf i).toNat)
  case atStart => exact ⟨0, zerosN k.ts.length, Nat.zero_le _, rfl, by simp [cntTo], HS.out, fun j h => absurd h (Nat.not_lt_zero _)⟩
  case round =>
    obtain ⟨m, ws, hm, rfl, rfl, hS, hway⟩ := hrel
    obtain ⟨c1, c2, c3, _, _, _, _, hzB⟩ := hS.cells
    have HSr := Lib.hid hS
    have HW := Lib.hid hway
    clear hway
    by_cases hlt : m < k.ts.length
    · have i0 : (0 : Int) ≤ (m : Int) := by omega
      have i1 : (m : Int) < (k.ts.length : Int) := by omega
      obtain ⟨bx, ox, hta, g0, g1⟩ := hS.pack HK.out hlt
      have hnm := k.nam hlt
      have hmT : m < k.T.length := by rw [k.T_len]; exact hlt
      have hTp : k.T[m] = DPack.pp k.ts[m] := ppL_at hmT hlt
      obtain ⟨⟨pn, po, pa, pc⟩, hxe⟩ : ∃ x, k.ts[m] = x := ⟨_, rfl⟩
      have hpo := (HK.out.tab.2 _ (List.getElem_mem hlt)).1
      rw [hxe] at g0 g1 hnm hTp hpo
      have HPo := Lib.hid hpo
      simp only [DPack.ov] at g0 g1
      have hal := (Below.refl wr.heap.size wr).alloc (Nat.le_refl _) (.cells #[.string pn, .slice pa po.length pc] 29)
      have e0 := box_cells (Below.refl (wr.heap.size + 1) (wr.alloc (.cells #[.string pn, .slice pa po.length pc] 29))) 0
      have e1 := box_cells (Below.refl (wr.heap.size + 1) (wr.alloc (.cells #[.string pn, .slice pa po.length pc] 29))) 1
      simp only [List.getElem?_toArray, List.getElem?_cons_zero, List.getElem?_cons_succ] at e0 e1
      have hd := (Below.refl (wr.alloc (.cells #[.string pn, .slice pa po.length pc] 29)).heap.size (wr.alloc (.cells #[.string pn, .slice pa po.length pc] 29))).drew
      have hSd := (hS.on hal).on hd
      have HSd := Lib.hid hSd
      have hst : (wr.alloc (.cells #[.string pn, .slice pa po.length pc] 29)).drew.cell? ⟨k.B, 2, none⟩ = some (.slice (some ⟨k.Bw, 0, none⟩) k.ts.length k.ts.length) ∧ (wr.alloc (.cells #[.string pn, .slice pa po.length pc] 29)).drew.cell? ⟨wr.heap.size, 1, none⟩ = some (.slice pa po.length pc) := ⟨hSd.cells.2.2.1, cell_on e1 hd⟩
      have hwl : m < ws.length := by rw [hS.wl]; exact hlt
      obtain ⟨r12, f12, z12⟩ := hSd.way_at (List.getElem?_eq_getElem hwl)
      have e0' := cell_on e0 hd
      have hzw : k.Bw < wr.heap.size := hS.way.lt
      have HP := Lib.hid (⟨hTp, hnm, e0', hst.2, hzw⟩ : _ ∧ _ ∧ _ ∧ _ ∧ _)
      have h300 : po.length ≤ 1000000 := by
        have := (HK.out.Bd.os _ (List.getElem_mem hmT)).1
        rw [hTp] at this
        simpa [DPack.pp] using this
      clear hpo hS hnm hTp hxe hal e0 e1 hd hSd e0' c2 c3
      go_wp2_with fail
      generalize wr.alloc (.cells #[.string pn, .slice pa po.length pc] 29) = wa at *
      refine wp_region_held_drew (S := (fun W => W.cell? ⟨k.B, 2, none⟩ = some (.slice (some ⟨k.Bw, 0, none⟩) k.ts.length k.ts.length) ∧ W.cell? ⟨wr.heap.size, 1, none⟩ = some (.slice pa po.length pc))) (by kernel_rfl) (hst) (fun hHeld => ?_)
      refine wpAnyH_take (i := 0) (v := ?_) rfl (by kernel_rfl) (by kernel_rfl) (by kernel_rfl) (fun _ _ _ h => h) (Or.inl ⟨by kernel_rfl, ?_⟩) hHeld ?_
      rotate_left
      · (rintro W ⟨e0, e1⟩; go_simp; (try with_reducible rfl))
      (try simp only [Act.put, List.getElem_toArray, List.getElem_cons_zero, List.setIfInBounds_toArray, List.set_cons_succ, List.set_cons_zero])
      refine wpAnyH_take (i := 1) (v := ?_) rfl (by kernel_rfl) (by kernel_rfl) (by kernel_rfl) (fun _ _ _ h => h) (Or.inl ⟨by kernel_rfl, ?_⟩) hHeld ?_
      rotate_left
      · (rintro W ⟨e0, e1⟩; go_simp; (try with_reducible rfl))
      (try simp only [Act.put, List.getElem_toArray, List.getElem_cons_succ, List.getElem_cons_zero, List.setIfInBounds_toArray, List.set_cons_succ, List.set_cons_zero])
      refine wpAnyH_take (i := 2) (v := ?_) rfl (by kernel_rfl) (by kernel_rfl) (by kernel_rfl) (fun _ _ _ h => h) (Or.inl ⟨by kernel_rfl, ?_⟩) hHeld ?_
      rotate_left
      · (rintro W ⟨e0, e1⟩; go_simp; (try with_reducible rfl))
      (try simp only [Act.put, List.getElem_toArray, List.getElem_cons_succ, List.getElem_cons_zero, List.setIfInBounds_toArray, List.set_cons_succ, List.set_cons_zero])
      refine wpAnyH_take (i := 3) (v := ?_) rfl (by kernel_rfl) (by kernel_rfl) (by kernel_rfl) (fun _ _ _ h => h) (Or.inl ⟨by kernel_rfl, ?_⟩) hHeld ?_
      rotate_left
      · (rintro W ⟨e0, e1⟩; go_simp; (try with_reducible rfl))
      (try simp only [Act.put, List.getElem_toArray, List.getElem_cons_succ, List.getElem_cons_zero, List.setIfInBounds_toArray, List.set_cons_succ, List.set_cons_zero])
      refine wpAnyH_take (i := 4) (v := ?_) rfl (by kernel_rfl) (by kernel_rfl) (by kernel_rfl) (fun _ _ _ h => h) (Or.inl ⟨by kernel_rfl, ?_⟩) hHeld ?_
      rotate_left
      · (rintro W ⟨e0, e1⟩; go_simp; (try with_reducible rfl))
      (try simp only [Act.put, List.getElem_toArray, List.getElem_cons_succ, List.getElem_cons_zero, List.setIfInBounds_toArray, List.set_cons_succ, List.set_cons_zero])
      refine wpAnyH_take (i := 5) (v := ?_) rfl (by kernel_rfl) (by kernel_rfl) (by kernel_rfl) (fun _ _ _ h => h) (Or.inl ⟨by kernel_rfl, ?_⟩) hHeld ?_
      rotate_left
      · (rintro W ⟨e0, e1⟩; go_simp; (try with_reducible rfl))
      (try simp only [Act.put, List.getElem_toArray, List.getElem_cons_succ, List.getElem_cons_zero, List.setIfInBounds_toArray, List.set_cons_succ, List.set_cons_zero])
      refine wpAnyH_take (i := 6) (v := ?_) rfl (by kernel_rfl) (by kernel_rfl) (by kernel_rfl) (fun _ _ _ h => h) (Or.inl ⟨by kernel_rfl, ?_⟩) hHeld ?_
      rotate_left
      · (rintro W ⟨e0, e1⟩; go_simp; (try with_reducible rfl))
      (try simp only [Act.put, List.getElem_toArray, List.getElem_cons_succ, List.getElem_cons_zero, List.setIfInBounds_toArray, List.set_cons_succ, List.set_cons_zero])
      refine wpAnyH_take (i := 7) (v := ?_) rfl (by kernel_rfl) (by kernel_rfl) (by kernel_rfl) (fun _ _ _ h => h) (Or.inl ⟨by kernel_rfl, ?_⟩) hHeld ?_
      rotate_left
      · (rintro W ⟨e0, e1⟩; go_simp; (try with_reducible rfl))
      (try simp only [Act.put, List.getElem_toArray, List.getElem_cons_succ, List.getElem_cons_zero, List.setIfInBounds_toArray, List.set_cons_succ, List.set_cons_zero])
      refine wpAnyH_take (i := 8) (v := ?_) rfl (by kernel_rfl) (by kernel_rfl) (by kernel_rfl) (fun _ _ _ h => h) (Or.inl ⟨by kernel_rfl, ?_⟩) hHeld ?_
      rotate_left
      · (rintro W ⟨e0, e1⟩; go_simp; (try with_reducible rfl))
      (try simp only [Act.put, List.getElem_toArray, List.getElem_cons_succ, List.getElem_cons_zero, List.setIfInBounds_toArray, List.set_cons_succ, List.set_cons_zero])
      refine wpAnyH_ready (rs := [9]) (by kernel_rfl) (by simp) ?_
      refine AllReadyH.cons rfl (fun K hK => ?_) AllReadyH.nil
      go_simp
      refine hK.out _ _ (⟨(HSd.out.set HK.out hlt po.length).cells.2.2.1, (World.cell?_setCell_far _ _ _ _ (Nat.ne_of_lt HP.out.2.2.2.2)).trans hst.2⟩) (fun hHeld => ?_)
      clear hK K
      (try simp only [Act.put, List.getElem_toArray, List.getElem_cons_succ, List.getElem_cons_zero, List.setIfInBounds_toArray, List.set_cons_succ, List.set_cons_zero])
      refine wpAnyH_done (by kernel_rfl) ?_ _
      have HSs : Hid (Srch k (wa.setCell ⟨k.Bw, m, none⟩ (.int .i64 (po.length : Int))).drew (ws.set m po.length) 0) := HSd.out.set HK.out hlt po.length
      have HE : Hid ((wa.setCell ⟨k.Bw, m, none⟩ (.int .i64 (po.length : Int))).drew.cell? ⟨wr.heap.size, 0, none⟩ = some (.string pn) ∧ (wa.setCell ⟨k.Bw, m, none⟩ (.int .i64 (po.length : Int))).drew.cell? ⟨wr.heap.size, 1, none⟩ = some (.slice pa po.length pc)) :=
        ⟨(World.cell?_setCell_far _ _ _ _ (Nat.ne_of_lt HP.out.2.2.2.2)).trans HP.out.2.2.1, (World.cell?_setCell_far _ _ _ _ (Nat.ne_of_lt HP.out.2.2.2.2)).trans HP.out.2.2.2.1⟩
      clear hst hHeld r12 f12 z12
      go_wp2
      generalize (wa.setCell ⟨k.Bw, m, none⟩ (.int .i64 (po.length : Int))).drew = wb at *
      generalize wr.heap.size = bq at *
      have Hbq := Lib.hid hzw
      clear c1 hzB hzw
      go_loopw [10, 43] (fun l j wy => HjRel picks pn (.int .i64 ((picks.length : Int) - (cntTo k.T picks m : Nat))) wb l j wy) (fun _ j _ => picks.length - (intOf j).toNat)
      case atStart => exact ⟨0, Nat.zero_le _, rfl, rfl, fun u _ h => absurd h (Nat.not_lt_zero _), Below.refl _ _⟩
      case round =>
        obtain ⟨t, ht, rfl, rfl, hno, hby⟩ := hrel
        have HNo := Lib.hid hno
        have HSy := Lib.hid (HSs.out.on hby)
        have hey := cell_on HE.out.1 hby
        have hey1 := cell_on HE.out.2 hby
        have HBy := Lib.hid hby
        clear hno
        by_cases hlt2 : t < picks.length
        · have t0 : (0 : Int) ≤ (t : Int) := by omega
          have t1 : (t : Int) < (picks.length : Int) := by omega
          obtain ⟨b5, o5, rfl, _, hrow⟩ := HX.out.row (below_then HKs.out.2.2 HSy.out.below) hlt2
          obtain ⟨a0, a1, a2, a3, a4⟩ := hrow t hlt2
          obtain ⟨⟨xn, ⟨v1, v2, v3, v4⟩⟩, hpe⟩ : ∃ x, picks[t] = x := ⟨_, rfl⟩
          rw [hpe] at a0 a1 a2 a3 a4
          simp only at a0 a1 a2 a3 a4
          have HPe := Lib.hid hpe
          have hal := (Below.refl wr.heap.size wr).alloc (Nat.le_refl _) (.cells #[.string xn, .int .i64 v1, .int .i64 v2, .int .i64 v3, .string v4] 45)
          have hb0 := Below.refl (wr.heap.size + 1) (wr.alloc (.cells #[.string xn, .int .i64 v1, .int .i64 v2, .int .i64 v3, .string v4] 45))
          have e0 := box_cells hb0 0
          have e1 := box_cells hb0 1
          have e2 := box_cells hb0 2
          have e3 := box_cells hb0 3
          have e4 := box_cells hb0 4
          simp only [List.getElem?_toArray, List.getElem?_cons_zero, List.getElem?_cons_succ] at e0 e1 e2 e3 e4
          have hpa : PikAt (wr.alloc (.cells #[.string xn, .int .i64 v1, .int .i64 v2, .int .i64 v3, .string v4] 45)) wr.heap.size ⟨xn, ⟨v1, v2, v3, v4⟩⟩ := ⟨e0, e1, e2, e3, e4⟩
          have hez := cell_on hey hal
          have hez1 := cell_on hey1 hal
          have HSz := Lib.hid (HSy.out.on hal)
          have hBz := hby.alloc hby.size (.cells #[.string xn, .int .i64 v1, .int .i64 v2, .int .i64 v3, .string v4] 45)
          have HBz := Lib.hid hBz
          have HPa := Lib.hid hpa
          clear hrow hpe hal hb0 hby e1 e2 e3 e4 hpa hey hBz
          by_cases hne : xn = pn
          · subst hne
            have q3 : (xn.toList == xn.toList) = true := beq_self_eq_true _
            have hd := (Below.refl (wr.alloc (.cells #[.string xn, .int .i64 v1, .int .i64 v2, .int .i64 v3, .string v4] 45)).heap.size (wr.alloc (.cells #[.string xn, .int .i64 v1, .int .i64 v2, .int .i64 v3, .string v4] 45))).drew
            have HSd := Lib.hid (HSz.out.on hd)
            have hst : (wr.alloc (.cells #[.string xn, .int .i64 v1, .int .i64 v2, .int .i64 v3, .string v4] 45)).drew.cell? ⟨k.B, 2, none⟩ = some (.slice (some ⟨k.Bw, 0, none⟩) k.ts.length k.ts.length) ∧ (wr.alloc (.cells #[.string xn, .int .i64 v1, .int .i64 v2, .int .i64 v3, .string v4] 45)).drew.cell? ⟨bq, 1, none⟩ = some (.slice pa po.length pc) := ⟨HSd.out.cells.2.2.1, cell_on hez1 hd⟩
            obtain ⟨iv, hiv⟩ : ∃ x, idxV (po.map DOff.po) ⟨v1, v2, v3, v4⟩ = x := ⟨_, rfl⟩
            have HIx : Hid (∀ W, Below (wr.alloc (.cells #[.string xn, .int .i64 v1, .int .i64 v2, .int .i64 v3, .string v4] 45)).drew.heap.size (wr.alloc (.cells #[.string xn, .int .i64 v1, .int .i64 v2, .int .i64 v3, .string v4] 45)).drew W → Calls Tryz.prog 71 #[.slice pa po.length pc, .func (.func 72) #[] #[.pointer (some ⟨wr.heap.size, 0, none⟩), .pointer (some ⟨bq, 0, none⟩)]] W fun e w' => e = .returned (.int .i64 (idxI iv)) ∧ Below W.heap.size W w') := fun W hW => by
              have h := holdIx_any _ po ⟨xn, ⟨v1, v2, v3, v4⟩⟩ xn wr.heap.size bq rfl W (HPo.out.1.below (HSd.out.on hW).below (Nat.le_refl _)) ((HPa.out.on hd).on hW) (cell_on (cell_on hez hd) hW)
              simp only [hiv] at h
              exact h
            have HIv := Lib.hid hiv
            have hmf : ∀ (fn : Fn) (first cap : Array Value) (w : World), (Instr.makeFunc fn first cap).run Tryz.prog w = .ok (.func fn first cap) w := fun _ _ _ _ => rfl
            clear hd hiv c0 hey1
            go_wp2_with fail
            generalize wr.alloc (.cells #[.string xn, .int .i64 v1, .int .i64 v2, .int .i64 v3, .string v4] 45) = wz at *
            refine wp_region_held_drew (S := (fun W => W.cell? ⟨k.B, 2, none⟩ = some (.slice (some ⟨k.Bw, 0, none⟩) k.ts.length k.ts.length) ∧ W.cell? ⟨bq, 1, none⟩ = some (.slice pa po.length pc))) (by kernel_rfl) (hst) (fun hHeld => ?_)
            refine wpAnyH_take (i := 0) (v := ?_) rfl (by kernel_rfl) (by kernel_rfl) (by kernel_rfl) (fun _ _ _ h => h) (Or.inl ⟨by kernel_rfl, ?_⟩) hHeld ?_
            rotate_left
            · (rintro W ⟨e0, e1⟩; go_simp; (try with_reducible rfl))
            (try simp only [Act.put, List.getElem_toArray, List.getElem_cons_zero, List.setIfInBounds_toArray, List.set_cons_succ, List.set_cons_zero])
            refine wpAnyH_take (i := 1) (v := ?_) rfl (by kernel_rfl) (by kernel_rfl) (by kernel_rfl) (fun _ _ _ h => h) (Or.inl ⟨by kernel_rfl, ?_⟩) hHeld ?_
            rotate_left
            · (rintro W ⟨e0, e1⟩; go_simp; (try with_reducible rfl))
            (try simp only [Act.put, List.getElem_toArray, List.getElem_cons_succ, List.getElem_cons_zero, List.setIfInBounds_toArray, List.set_cons_succ, List.set_cons_zero])
            refine wpAnyH_take (i := 2) (v := ?_) rfl (by kernel_rfl) (by kernel_rfl) (by kernel_rfl) (fun _ _ _ h => h) (Or.inl ⟨by kernel_rfl, ?_⟩) hHeld ?_
            rotate_left
            · (rintro W ⟨e0, e1⟩; go_simp; (try with_reducible rfl))
            (try simp only [Act.put, List.getElem_toArray, List.getElem_cons_succ, List.getElem_cons_zero, List.setIfInBounds_toArray, List.set_cons_succ, List.set_cons_zero])
            refine wpAnyH_take (i := 3) (v := ?_) rfl (by kernel_rfl) (by kernel_rfl) (by kernel_rfl) (fun _ _ _ h => h) (Or.inl ⟨by kernel_rfl, ?_⟩) hHeld ?_
            rotate_left
            · (rintro W ⟨e0, e1⟩; go_simp; (try with_reducible rfl))
            (try simp only [Act.put, List.getElem_toArray, List.getElem_cons_succ, List.getElem_cons_zero, List.setIfInBounds_toArray, List.set_cons_succ, List.set_cons_zero])
            refine wpAnyH_take (i := 4) (v := ?_) rfl (by kernel_rfl) (by kernel_rfl) (by kernel_rfl) (fun _ _ _ h => h) (Or.inl ⟨by kernel_rfl, ?_⟩) hHeld ?_
            rotate_left
            · (rintro W ⟨e0, e1⟩; go_simp; (try with_reducible rfl))
            (try simp only [Act.put, List.getElem_toArray, List.getElem_cons_succ, List.getElem_cons_zero, List.setIfInBounds_toArray, List.set_cons_succ, List.set_cons_zero])
            refine wpAnyH_take (i := 5) (v := ?_) rfl (by kernel_rfl) (by kernel_rfl) (by kernel_rfl) (fun _ _ _ h => h) (Or.inl ⟨by kernel_rfl, ?_⟩) hHeld ?_
            rotate_left
            · (rintro W ⟨e0, e1⟩; go_simp; (try with_reducible rfl))
            (try simp only [Act.put, List.getElem_toArray, List.getElem_cons_succ, List.getElem_cons_zero, List.setIfInBounds_toArray, List.set_cons_succ, List.set_cons_zero])
            refine wpAnyH_take (i := 6) (v := ?_) rfl (by kernel_rfl) (by kernel_rfl) (by kernel_rfl) (fun _ _ _ h => h) (Or.inl ⟨by kernel_rfl, ?_⟩) hHeld ?_
            rotate_left
            · (rintro W ⟨e0, e1⟩; go_simp; (try with_reducible rfl))
            (try simp only [Act.put, List.getElem_toArray, List.getElem_cons_succ, List.getElem_cons_zero, List.setIfInBounds_toArray, List.set_cons_succ, List.set_cons_zero])
            refine wpAnyH_take (i := 7) (v := ?_) rfl (by kernel_rfl) (by kernel_rfl) (by kernel_rfl) (fun _ _ _ h => h) (Or.inl ⟨by kernel_rfl, ?_⟩) hHeld ?_
            rotate_left
            · (rintro W ⟨e0, e1⟩; go_simp; (try with_reducible rfl))
            (try simp only [Act.put, List.getElem_toArray, List.getElem_cons_succ, List.getElem_cons_zero, List.setIfInBounds_toArray, List.set_cons_succ, List.set_cons_zero])
            refine wpAnyH_ready (rs := [8]) (by kernel_rfl) (by simp) ?_
            refine AllReadyH.cons rfl (fun K hK => ?_) AllReadyH.nil
            go_simp
            refine (HIx.out _ (Below.refl _ _)).mono ?_
            rintro e w12 ⟨rfl, hk12⟩
            have HS12 := Lib.hid (HSd.out.on hk12)
            obtain ⟨r12, f12, z12⟩ := HS12.out.way_at (a := po.length) (by rw [List.getElem?_set_self hwl])
            refine hK.out _ _ (⟨cell_on hHeld.1 hk12, cell_on hHeld.2 hk12⟩) (fun hHeld => ?_)
            clear hK K
            (try simp only [Act.put, List.getElem_toArray, List.getElem_cons_succ, List.getElem_cons_zero, List.setIfInBounds_toArray, List.set_cons_succ, List.set_cons_zero])
            refine wpAnyH_take (i := 9) (v := ?_) rfl (by kernel_rfl) (by kernel_rfl) (by kernel_rfl) (fun _ _ _ h => h) (Or.inl ⟨by kernel_rfl, ?_⟩) hHeld ?_
            rotate_left
            · (rintro W ⟨e0, e1⟩; go_simp; (try with_reducible rfl))
            (try simp only [Act.put, List.getElem_toArray, List.getElem_cons_succ, List.getElem_cons_zero, List.setIfInBounds_toArray, List.set_cons_succ, List.set_cons_zero])
            refine wpAnyH_ready (rs := [10]) (by kernel_rfl) (by simp) ?_
            refine AllReadyH.cons rfl (fun K hK => ?_) AllReadyH.nil
            have hHe := hHeld
            go_simp
            refine hK.out _ _ (⟨(World.cell?_setCell_far _ _ _ _ (fun e => HK.out.ap.2.1 e.symm)).trans hHe.1, (World.cell?_setCell_far _ _ _ _ (Nat.ne_of_lt Hbq.out)).trans hHe.2⟩) (fun hHeld => ?_)
            clear hK K
            (try simp only [Act.put, List.getElem_toArray, List.getElem_cons_succ, List.getElem_cons_zero, List.setIfInBounds_toArray, List.set_cons_succ, List.set_cons_zero])
            refine wpAnyH_done (by kernel_rfl) ?_ _
            have hq : (w12.setCell ⟨k.Bw, m, none⟩ (.int .i64 (idxI iv))).cell? ⟨k.Bw, m, none⟩ = some (.int .i64 (idxI iv)) := by
              have h := (HS12.out.way.set m (.int .i64 (idxI iv))).cell hlt
              simp only [if_true] at h
              exact h
            have hq2 := hHeld.1
            have hzs : k.B < (w12.setCell ⟨k.Bw, m, none⟩ (.int .i64 (idxI iv))).heap.size := cell_lt hq2
            have hzw : k.Bw < (w12.setCell ⟨k.Bw, m, none⟩ (.int .i64 (idxI iv))).heap.size := cell_lt hq
            have hfp : findPk picks xn = some ⟨xn, ⟨v1, v2, v3, v4⟩⟩ := by
              have h := findPk_hit (nm := xn) hlt2 (by rw [HPe.out]) HNo.out
              rw [HPe.out] at h; exact h
            have hSn : S (namL k.T m) = xn := by rw [HP.out.2.1]; exact S_of _
            have hSn2 : S (k.T[m]).nm = xn := by rw [HP.out.1]; exact S_of _
            have hwp : wayP k.ak picks k.T[m] = iv := by
              rw [wayP_hit (x := ⟨xn, ⟨v1, v2, v3, v4⟩⟩) (by rw [hSn2]; exact hfp), HP.out.1]
              exact HIv.out
            have hct : cntTo k.T picks (m + 1) = cntTo k.T picks m + 1 := cntTo_hit (x := ⟨xn, ⟨v1, v2, v3, v4⟩⟩) (by rw [hSn]; exact hfp)
            have hcm := cntTo_le k.T picks m
            have HWp := Lib.hid (⟨hwp, hct⟩ : _ ∧ _)
            obtain ⟨cn, hcn⟩ : ∃ x, cntTo k.T picks m = x := ⟨_, rfl⟩
            rw [hcn] at hcm
            have HCn := Lib.hid hcn
            have hwl2 : IntKind.i64.wrap ((picks.length : Int) - (cn : Int) - 1) = (picks.length : Int) - (cn : Int) - 1 := by rw [IntKind.wrap_i64]; omega
            have hB12 : Below w.heap.size w (w12.setCell ⟨k.Bw, m, none⟩ (.int .i64 (idxI iv))) := below_then HKs.out.2.2 ((HS12.out.below).setCell (HK.out.gB.2.2.1) _)
            have HB12 := Lib.hid hB12
            clear hst hHeld hfp hSn hSn2 hwp hct r12 f12 z12 hB12
            have HSq : Hid (∀ a, iv = some a → Srch k (w12.setCell ⟨k.Bw, m, none⟩ (.int .i64 (idxI iv))) ((ws.set m po.length).set m a) 0) := fun a h => by
              subst h
              exact HS12.out.set HK.out hlt a
            generalize w12.setCell ⟨k.Bw, m, none⟩ (.int .i64 (idxI iv)) = wq at *
            rcases iv with _ | a
            · have HF : Hid (HoldPost lock needs ps picks w (.returned (.bool false)) wq) :=
                ⟨false, rfl, ⟨k.ts, HKs.out.2.1, ⟨fun h => (by cases h), fun h => by rw [← HKs.out.1] at h; exact absurd h (no_way HK.out.W (table_V HKs.out.2.1) hmT HWp.out.1)⟩⟩, HB12.out⟩
              simp only [idxI] at hq
              rw [hcn]
              clear hcn
              go_wp2_with fail
              (try rw [Exit.noGoto_ret])
              go_ret
              exact HF.out
            · have hq6 : decide ((a : Int) < 0) = false := decide_eq_false (by omega)
              simp only [idxI] at hq
              rw [hcn]
              clear hcn
              go_wp2_with fail
              rw [← hta]
              go_roundw
              case rel =>
                refine ⟨m + 1, (ws.set m po.length).set m a, hlt, by go_num, ?_, HSq.out a rfl, fun j hj h => ?_⟩
                · rw [HWp.out.2, HCn.out]; congr 1; omega
                · by_cases hjm : j = m
                  · subst hjm
                    rw [HWp.out.1, List.getElem?_set_self (by rw [List.length_set]; exact hwl)]
                  · rw [List.getElem?_set_ne (fun e => hjm e.symm), List.getElem?_set_ne (fun e => hjm e.symm)]
                    exact HW.out j (by omega) h
              case measure => simp [intOf]; omega
          · have q3 : (xn.toList == pn.toList) = false := by rw [beq_eq_false_iff_ne]; exact fun h => hne (bytes_injP h)
            have HNe := Lib.hid hne
            clear hne
            go_wp2_with fail
            go_roundw
            case rel =>
              refine ⟨t + 1, hlt2, rfl, by go_num, fun u h hu => ?_, HBz.out⟩
              by_cases hut : u < t
              · exact HNo.out u h hut
              · have : u = t := by omega
                subst this
                rw [HPe.out]; exact HNe.out
            case measure => simp [intOf]; omega
        · have t1 : decide (t < picks.length) = false := decide_eq_false hlt2
          obtain ⟨d0, d1, d2, _, _, _, _, hzB⟩ := HSy.out.cells
          have ra := HSy.out.ask.cell hlt
          have hza := HSy.out.ask.lt
          have hfp : findPk picks pn = none := findPk_miss fun u h => HNo.out u h (by omega)
          have hSn : S (namL k.T m) = pn := by rw [HP.out.2.1]; exact S_of _
          have hSn2 : S (k.T[m]).nm = pn := by rw [HP.out.1]; exact S_of _
          have hwp : wayP k.ak picks k.T[m] = if k.ak (namL k.T m) = true then none else some po.length := by
            rw [wayP_miss (by rw [hSn2]; exact hfp), HP.out.2.1, HP.out.1]
            show (if k.ak pn.data.toList = true then none else some (po.map DOff.po).length) = _
            rw [List.length_map]
          have hct : cntTo k.T picks (m + 1) = cntTo k.T picks m := cntTo_miss (by rw [hSn]; exact hfp)
          have HWp := Lib.hid (⟨hwp, hct⟩ : _ ∧ _)
          obtain ⟨b, hab⟩ : ∃ x, k.ak (namL k.T m) = x := ⟨_, rfl⟩
          rw [hab] at ra
          have HAb := Lib.hid hab
          have HBe := Lib.hid (below_then HKs.out.2.2 HSy.out.below)
          clear hlt2 hfp hSn hSn2 hwp hct hab c0 hey hey1 hby
          cases b
          · go_wp2_with fail
            rw [← hta]
            go_roundw
            case rel =>
              refine ⟨m + 1, ws.set m po.length, hlt, by go_num, by rw [HWp.out.2], HSy.out, fun j hj h => ?_⟩
              by_cases hjm : j = m
              · subst hjm
                rw [HWp.out.1, HAb.out, List.getElem?_set_self hwl]; rfl
              · rw [List.getElem?_set_ne (fun e => hjm e.symm)]
                exact HW.out j (by omega) h
            case measure => simp [intOf]; omega
          · have hwn : wayP k.ak picks k.T[m] = none := by rw [HWp.out.1, HAb.out]; rfl
            have HF : Hid (HoldPost lock needs ps picks w (.returned (.bool false)) wr) :=
              ⟨false, rfl, ⟨k.ts, HKs.out.2.1, ⟨fun h => (by cases h), fun h => by rw [← HKs.out.1] at h; exact absurd h (no_way HK.out.W (table_V HKs.out.2.1) hmT hwn)⟩⟩, HBe.out⟩
            clear hwn
            go_wp2_with fail
            (try rw [Exit.noGoto_ret])
            go_ret
            exact HF.out
    · have i1 : decide (m < k.ts.length) = false := decide_eq_false hlt
      have hme : m = k.ts.length := by omega
      subst hme
      have hall : ∀ j (h : j < k.T.length), wayP k.ak picks k.T[j] = ws[j]? := fun j h => HW.out j (by rw [← k.T_len]; exact h) h
      have hwo : ∀ j, j < k.ts.length → WayOk k ws j := fun j hj => by
        have hwj := List.getElem?_eq_getElem (show j < ws.length by rw [hS.wl]; exact hj)
        have hjT : j < k.T.length := by rw [k.T_len]; exact hj
        have h1 := hall j hjT
        rw [hwj] at h1
        have h2 := wayP_le h1
        have hTp : k.T[j] = DPack.pp k.ts[j] := ppL_at hjT hj
        rw [hTp] at h2
        exact ⟨hj, _, hwj, by simpa [DPack.pp] using h2⟩
      have HAll := Lib.hid hall
      have HWo := Lib.hid hwo
      have HBr := Lib.hid (below_then HKs.out.2.2 hS.below)
      obtain ⟨cn, hcn⟩ : ∃ x, cntTo k.T picks k.ts.length = x := ⟨_, rfl⟩
      have HCn := Lib.hid hcn
      have hcm := cntTo_le k.T picks k.ts.length
      rw [hcn] at hcm
      rw [hcn]
      obtain ⟨w3, hw3⟩ : ∃ x, x = wr := ⟨_, rfl⟩
      subst hw3
      clear hlt hS hall hwo hcn
      go_wp2_with fail
      go_loopw [86] (fun i wy => HfRel k w3 ws i wy) (fun i _ => k.ts.length - (intOf i).toNat)
      case atStart => exact ⟨0, Nat.zero_le _, rfl, Below.refl _ _, fun j h => absurd h (Nat.not_lt_zero _)⟩
      case round =>
        obtain ⟨q, hq, rfl, hb3, hfit⟩ := hrel
        have HFi := Lib.hid hfit
        have HB3 := Lib.hid (HBr.out.trans (hb3.mono HBr.out.size))
        have HSq := Lib.hid (HSr.out.on hb3)
        have HBw := Lib.hid hb3
        clear hfit
        by_cases hlt : q < k.ts.length
        · have q0 : (0 : Int) ≤ (q : Int) := by omega
          have q1 : (q : Int) < (k.ts.length : Int) := by omega
          have HFt := Lib.hid (fits_as (i := q) HK.out HSq.out (fun j hj => HWo.out j (Nat.lt_of_le_of_lt hj hlt)))
          obtain ⟨b, hb⟩ : ∃ x, fitL k.T ws q = x := ⟨_, rfl⟩
          have HFb := Lib.hid hb
          rw [hb] at HFt
          clear hb hb3
          go_wp2_with fail
          refine HFt.out.mono ?_
          rintro e w5 ⟨rfl, hb5⟩
          cases b
          · have HF : Hid (HoldPost lock needs ps picks w (.returned (.bool false)) w5) :=
              ⟨false, rfl, ⟨k.ts, HKs.out.2.1, ⟨fun h => (by cases h), fun h => by
                rw [← HKs.out.1] at h
                have hg := (holds_ws (T := k.T) HK.out.W (table_V HKs.out.2.1) (by rw [HSr.out.wl, k.T_len]) HAll.out h).1.1 q (by rw [k.T_len]; exact hlt)
                rw [HFb.out] at hg; cases hg⟩⟩, below_then HB3.out hb5⟩
            clear hb5
            go_wp2_with fail
            (try rw [Exit.noGoto_ret])
            go_ret
            exact HF.out
          · have HB5 := Lib.hid (below_then HBw.out hb5)
            clear hb5
            go_wp2_with fail
            go_roundw
            case rel =>
              refine ⟨q + 1, hlt, by go_num, HB5.out, fun j hj => ?_⟩
              by_cases hjq : j < q
              · exact HFi.out j hjq
              · have : j = q := by omega
                subst this
                exact HFb.out
            case measure => simp [intOf]; omega
        · have q1 : decide (q < k.ts.length) = false := decide_eq_false hlt
          have hfa : ∀ i, i < k.T.length → fitL k.T ws i = true := fun i hi => HFi.out i (Nat.lt_of_lt_of_le (show i < k.ts.length by rw [← k.T_len]; exact hi) (Nat.le_of_not_lt hlt))
          have HFa := Lib.hid hfa
          clear hlt hfa hb3
          by_cases hcp : cn = picks.length
          · have q5 : ((picks.length : Int) - (cn : Int) == 0) = true := by rw [beq_iff_eq]; omega
            have q6 : decide ((picks.length : Int) - (cn : Int) = 0) = true := decide_eq_true (by omega)
            have q7 : (picks.length : Int) - (cn : Int) = 0 := by omega
            have HGr := Lib.hid (grounded_as HK.out HSq.out HWo.out)
            have HCp := Lib.hid hcp
            rw [q7]
            clear hcp q7 q5 q6
            go_wp2_with fail
            refine HGr.out.mono ?_
            rintro e w5 ⟨⟨b, rfl, hbg⟩, hb5⟩
            have HF : Hid (HoldPost lock needs ps picks w (.returned (.bool b)) w5) :=
              ⟨b, rfl, ⟨k.ts, HKs.out.2.1, ⟨fun h => by
                rw [← HKs.out.1]
                exact prog_holds (T := k.T) HK.out.W (by rw [HSr.out.wl, k.T_len]) ⟨HFa.out, hbg.1 h⟩ HAll.out (by rw [k.T_len, HCn.out]; exact HCp.out), fun h => by
                rw [← HKs.out.1] at h
                exact hbg.2 (holds_ws (T := k.T) HK.out.W (table_V HKs.out.2.1) (by rw [HSr.out.wl, k.T_len]) HAll.out h).1.2⟩⟩, below_then HB3.out hb5⟩
            clear hb5 hbg
            go_wp2_with fail
            (try rw [Exit.noGoto_ret])
            go_ret
            exact HF.out
          · have q5 : ((picks.length : Int) - (cn : Int) == 0) = false := by rw [beq_eq_false_iff_ne]; omega
            have q6 : decide ((picks.length : Int) - (cn : Int) = 0) = false := decide_eq_false (by omega)
            have HF : Hid (HoldPost lock needs ps picks w (.returned (.bool false)) wr) :=
              ⟨false, rfl, ⟨k.ts, HKs.out.2.1, ⟨fun h => (by cases h), fun h => by
                rw [← HKs.out.1] at h
                have hc := (holds_ws (T := k.T) HK.out.W (table_V HKs.out.2.1) (by rw [HSr.out.wl, k.T_len]) HAll.out h).2
                rw [k.T_len, HCn.out] at hc
                exact absurd hc hcp⟩⟩, HB3.out⟩
            clear hcp
            go_wp2_with fail
            (try rw [Exit.noGoto_ret])
            go_ret
            exact HF.out
end Go.Proofs.YtllkiedikjgkbaaGreatDoor
