/- ChoiceReach: A package of a name that is not reached changes nothing. The law returns true. -/
import Derived.Test.YtllkiedikjgkbaaGreatDoorChPre
import Derived.Test.YtllkiedikjgkbaaGreatDoorChReach
import Derived.Test.YtllkiedikjgkbaaGreatDoorCmdMore
namespace Go
open Go.RowKit
theorem row_src {w : World} {size m c : Nat} {ao : Option Addr} {xs : List Value} (h : Row w size (.slice ao m c) m xs) : m = 0 ∨ ∃ ad, ao = some ad ∧ ∀ j u, xs[j]? = some u → w.cell? (ad.add j) = some u := by
  obtain ⟨h1, _, ⟨a, cap, h3, h4, _⟩ | ⟨b, off, cap, h3, h4, h5, h6⟩⟩ := h
  · exact .inl h4
  · injection h3 with h3 _ _
    refine .inr ⟨_, h3, fun j u hj => ?_⟩
    have hjl : j < m * size := by rw [← h1]; exact (List.getElem?_eq_some_iff.1 hj).1
    rw [show (⟨b, off, none⟩ : Addr).add j = ⟨b, off + j, none⟩ by simp [Addr.add], h6 j hjl, hj]
theorem own_lit {w : World} {base b : Nat} {e : TypeId} {size : Nat} {xs : List Value} (h : w.heap[b]? = some (.cells xs.toArray e (0, 0))) (hb : base ≤ b) (hx : xs.length = size) : w.ownsRow base e size (.slice (some ⟨b, 0, none⟩) 1 1) 1 xs :=
  ⟨by omega, .inr ⟨b, 1, xs.toArray, rfl, hb, h, Nat.le_refl _, by unfold maxLen; decide, by simp [hx], by simp; exact List.take_of_length_le (Nat.le_of_eq hx)⟩⟩
/-- the loops' relations -/
def ReaC (ts : List DPack) (nm : ByteArray) (w : World) (x i : Value) (wr : World) : Prop :=
  ∃ (k : Nat) (m : Bool), k ≤ ts.length ∧ x = .bool m ∧ i = .int .i64 (k : Int) ∧ (m = false → ∀ j (h : j < ts.length), j < k → ts[j].name ≠ nm) ∧ Below w.heap.size w wr
def ReaN (ns : List (Want × Value)) (tn : ByteArray) (w : World) (x i : Value) (wr : World) : Prop :=
  ∃ (k : Nat) (r : Bool), k ≤ ns.length ∧ x = .bool r ∧ i = .int .i64 (k : Int) ∧ (r = false → ∀ j (h : j < ns.length), j < k → S ns[j].1.name ≠ tn) ∧ Below w.heap.size w wr
def NoN (ns : List (Want × Value)) (tn : ByteArray) : Prop := ∀ n ∈ ns, S n.1.name ≠ tn
def NoO (os : List DOff) (tn : ByteArray) : Prop := ∀ o ∈ os, NoN o.ns tn
def NoT (ts : List DPack) (tn : ByteArray) : Prop := ∀ t ∈ ts, NoO t.os tn
def ReaT (ns : List (Want × Value)) (ts : List DPack) (tn : ByteArray) (w : World) (x i : Value) (wr : World) : Prop :=
  ∃ (k : Nat) (r : Bool), k ≤ ts.length ∧ x = .bool r ∧ i = .int .i64 (k : Int) ∧ (r = false → NoN ns tn ∧ NoT (ts.take k) tn) ∧ Below w.heap.size w wr
def ReaO (P : Prop) (os : List DOff) (tn : ByteArray) (w : World) (x i : Value) (wr : World) : Prop :=
  ∃ (k : Nat) (r : Bool), k ≤ os.length ∧ x = .bool r ∧ i = .int .i64 (k : Int) ∧ (r = false → P ∧ NoO (os.take k) tn) ∧ Below w.heap.size w wr
def ReaM (P : Prop) (ns : List (Want × Value)) (tn : ByteArray) (w : World) (x i : Value) (wr : World) : Prop :=
  ∃ (k : Nat) (r : Bool), k ≤ ns.length ∧ x = .bool r ∧ i = .int .i64 (k : Int) ∧ (r = false → P ∧ NoN (ns.take k) tn) ∧ Below w.heap.size w wr
theorem all_of_to {ns : List (Want × Value)} {tn : ByteArray} (h : ∀ j (h : j < ns.length), j < ns.length → S ns[j].1.name ≠ tn) : NoN ns tn := fun n hn => by
  obtain ⟨j, hj, rfl⟩ := List.getElem_of_mem hn
  exact h j hj hj
/-- what the region looks at -/
def RpS (b : Nat) (pk lk nv : Value) (c : Nat) (nm ov : Value) (w0 W : World) : Prop := CaS b pk lk nv w0 W ∧ W.cell? ⟨c, 0, none⟩ = some nm ∧ W.cell? ⟨c, 1, none⟩ = some ov
theorem RpS.on {b : Nat} {pk lk nv : Value} {c : Nat} {nm ov : Value} {w0 W W' : World} (h : RpS b pk lk nv c nm ov w0 W) (hb : Below W.heap.size W W') : RpS b pk lk nv c nm ov w0 W' := ⟨h.1.on hb, cell_on h.2.1 hb, cell_on h.2.2 hb⟩
theorem reach_true {lock : List Pik} {needs : List (Want × Value)} {ps ts : List DPack} (h : TableIs lock needs ps ts) {k : Nat} (hk : k < ts.length) {r : Bool} (hr : r = false → NoN needs ts[k].name ∧ NoT ts ts[k].name) : r = true := by
  cases r with
  | true => rfl
  | false =>
    obtain ⟨h1, h2⟩ := hr rfl
    have hs : ∀ l : Nam, l = pname ts[k] → S l = ts[k].name := fun l e => by rw [e]; exact pname_S _
    rcases h.reached (a := pname ts[k]) (List.mem_map.2 ⟨_, List.getElem_mem hk, rfl⟩) with ⟨x, hx, he⟩ | ⟨t, ht, o, ho, n, hn, he⟩
    · exact absurd (hs _ he) (h1 x hx)
    · exact absurd (hs _ he) (h2 t ht o ho n hn)
theorem rises_table {lock : List Pik} {needs : List (Want × Value)} {ps ts : List DPack} (h : TableIs lock needs ps ts) {k : Nat} (h0 : 0 < k) (hk : k < ts.length) : Op.bytesLess (ts[k - 1]'(by omega)).name.toList ts[k].name.toList = true := by
  rw [Lib.toList_data, Lib.toList_data, bLess]
  refine decide_eq_true ?_
  have := List.pairwise_iff_getElem.1 h.up (k - 1) k (by simp; omega) (by simpa using hk) (by omega)
  simpa [pname] using this
end Go
namespace Go.Proofs.YtllkiedikjgkbaaGreatDoor
open Go.RowKit Go.Maps
theorem ctx_more {ps : List DPack} {lock : List Pik} {needs : List (Want × Value)} {p : DPack} (h : SmallP ps lock needs) (h2 : SmallP [p] [] []) {pk lk nv : Value} {w : World} (hp : Packs w pk (p :: ps)) (hl : Piks w lk lock) (hn : Wants w nv needs) (hE : Env w) : TabCtx lock needs (p :: ps) pk lk nv w := by
  have hos : ∀ q ∈ p :: ps, q.os.length ≤ 100 ∧ ∀ o ∈ q.os, OffP o := fun q hq => by
    rcases List.mem_cons.1 hq with rfl | hq
    · exact h2.os q (by simp)
    · exact h.os q hq
  refine ⟨hp, hl, hn, hE, fun q hq => ⟨Nat.le_trans (hos q hq).1 (by decide), fun o ho => by have := ((hos q hq).2 o ho).1; omega⟩, fun q hq o ho => ?_, h.nd.bounds2, fun a ha => ?_, ?_⟩
  · have := ((hos q hq).2 o ho).2
    exact ⟨Nat.le_trans this.1 (by decide), fun x hx => by have := (this.2 x hx).1; omega⟩
  · rcases List.mem_append.1 ha with ha | ha
    · exact h.names.2 a (List.mem_append_left _ ha)
    · obtain ⟨q, hq, ha⟩ := List.mem_flatMap.1 ha
      obtain ⟨o, ho, ha⟩ := List.mem_flatMap.1 ha
      obtain ⟨x, hx, rfl⟩ := List.mem_map.1 ha
      have := (((hos q hq).2 o ho).2.2 x hx).2.1
      show x.1.name.length ≤ 1000; omega
  · unfold allNames
    rw [List.length_append]
    have h1 := h.nd.len
    have h3 := flat_len (m := 3000) (f := fun p : DPack => p.os.flatMap fun o => o.ns.map wname) (p :: ps) (fun p hp => by
      have h3 := flat_len (m := 30) (f := fun o : DOff => o.ns.map wname) p.os (fun o ho => ((hos p hp).2 o ho).2.len)
      have h4 := (hos p hp).1
      exact Nat.le_trans h3 (by omega))
    have h5 := h.few
    rw [List.length_cons] at h3
    omega
set_option maxRecDepth 100000 in
set_option maxHeartbeats 8000000 in
theorem chReach_any (pk lk nv : Value) (ps : List DPack) (lock : List Pik) (needs : List (Want × Value)) (nm : ByteArray) (oa : Option Addr) (oc : Nat) (os : List DOff) (w : World)
    (hp : Packs w pk ps) (hl : Piks w lk lock) (hn : Wants w nv needs) (ho : Offs w (.slice oa os.length oc) os) (hE : Env w) :
    Calls Tryz.prog 3 #[.agg #[pk, lk, nv], .agg #[.string nm, .slice oa os.length oc]] w fun e w' => e = .returned (.bool true) ∧ Below w.heap.size w w' := by
  obtain ⟨_, a0, cap0, rfl⟩ := hp.len
  obtain ⟨a1, cap1, rfl⟩ := hl.len
  obtain ⟨_, a2, cap2, rfl⟩ := hn.len
  have hxA := Below.refl (w.heap.size + 1) (w.alloc (.cells #[.slice a0 ps.length cap0, .slice a1 lock.length cap1, .slice a2 needs.length cap2] 26))
  have s1 : (w.alloc (.cells #[.slice a0 ps.length cap0, .slice a1 lock.length cap1, .slice a2 needs.length cap2] 26)).heap.size = w.heap.size + 1 := by simp
  have hxA2 := hxA.alloc (by simp) (.cells #[.string nm, .slice oa os.length oc] 29)
  have hxB := Below.refl ((w.alloc (.cells #[.slice a0 ps.length cap0, .slice a1 lock.length cap1, .slice a2 needs.length cap2] 26)).heap.size + 1) ((w.alloc (.cells #[.slice a0 ps.length cap0, .slice a1 lock.length cap1, .slice a2 needs.length cap2] 26)).alloc (.cells #[.string nm, .slice oa os.length oc] 29))
  have hW0 := below_first hxA2
  have hSm := Lib.hid (small_any _ _ _ ps lock needs _ (hp.below hW0 (Nat.le_refl _)) (hl.below hW0 (Nat.le_refl _)) (hn.below hW0 (Nat.le_refl _)))
  have b0 := box_cells hxA2 0
  have b1 := box_cells hxA2 1
  have b2 := box_cells hxA2 2
  have b3 := box_cells hxB 0
  have b4 := box_cells hxB 1
  rw [s1] at b3 b4
  simp only [List.getElem?_toArray, List.getElem?_cons_zero, List.getElem?_cons_succ] at b0 b1 b2 b3 b4
  have HP := Lib.hid hp
  have HL := Lib.hid hl
  have HN := Lib.hid hn
  have HO := Lib.hid ho
  have HE := Lib.hid hE
  have HA := Lib.hid hxA2
  have HB := Lib.hid hxB
  have HW0 := Lib.hid hW0
  have hs1 := Lib.hid s1
  clear hp hl hn ho hE hxA hxA2 hxB hW0 s1
  go_enter Tryz.func3, Tryz.ntmps3
  go_wp2_with fail
  refine hSm.out.mono ?_
  rintro e w2 ⟨⟨b, rfl, hb⟩, hbw⟩
  have hb2 := HW0.out.trans (hbw.mono HW0.out.size)
  have hA2 := box_then HA.out hbw
  have hB2 := box_then HB.out hbw
  have d0 := box_cells hA2 0
  have d1 := box_cells hA2 1
  have d2 := box_cells hA2 2
  have d3 := box_cells hB2 0
  have d4 := box_cells hB2 1
  rw [hs1.out] at d3 d4
  simp only [List.getElem?_toArray, List.getElem?_cons_zero, List.getElem?_cons_succ] at d0 d1 d2 d3 d4
  clear b0 b1 b2 b3 b4 hA2 hB2
  cases b
  · have HAw := Lib.hid (awake_any w2 (HE.out.below hb2))
    clear hb d0 d1 d2 d3 d4
    go_wp2_with fail
    refine HAw.out.mono ?_
    rintro e w3 ⟨rfl, hb3⟩
    have hb4 := below_then hb2 hb3
    go_wp2_with fail
    go_ret
    exact ⟨rfl, hb4⟩
  have HSM := Lib.hid (hb rfl)
  have hpk := Below_heap_new w2 (.cells #[.string nm, .slice oa os.length oc] 29)
  have hW2 := hb2.alloc hb2.size (.cells #[.string nm, .slice oa os.length oc] 29)
  have hSm2 := Lib.hid (small_any (.slice (some ⟨w2.heap.size, 0, none⟩) 1 1) (.slice none 0 0) (.slice none 0 0) [⟨nm, os, oa, oc⟩] [] [] _
    ⟨row_blk (n := 1) (xs := [DPack.mk nm os oa oc].flatMap DPack.cells) hpk rfl rfl (by decide) (by unfold maxLen; decide), fun p hp => by simp at hp; subst hp; exact ⟨HO.out.below hW2 (Nat.le_refl _), _, _, rfl⟩⟩ ⟨rfl, Nat.zero_le _, .inl ⟨_, _, rfl, rfl, fun _ => rfl⟩⟩ (Wants.nil _))
  have HW2 := Lib.hid hW2
  have hD : RpS w.heap.size (.slice a0 ps.length cap0) (.slice a1 lock.length cap1) (.slice a2 needs.length cap2) (w.heap.size + 1) (.string nm) (.slice oa os.length oc) w2 w2 := ⟨⟨d0, d1, d2, Below.refl _ _⟩, d3, d4⟩
  have HD := Lib.hid hD
  have HZ := Lib.hid (Below.refl w2.heap.size w2)
  have hsz := cell_lt d0
  have hsz2 := cell_lt d3
  clear hb hpk hW2 hD hbw hb2
  go_wp2_with fail
  refine hSm2.out.mono ?_
  rintro e w3 ⟨⟨b, rfl, hb⟩, hbw⟩
  have hb3 := HW2.out.trans (hbw.mono HW2.out.size)
  have hk3 : Below w2.heap.size w2 w3 := ((Below.refl _ _).alloc (Nat.le_refl _) _).trans (hbw.mono (by simp))
  clear d0 d1 d2 d3 d4 hbw
  cases b
  · have HAw := Lib.hid (awake_any w3 (HE.out.below hb3))
    clear hb
    go_wp2_with fail
    refine HAw.out.mono ?_
    rintro e w4 ⟨rfl, hb4⟩
    have hb5 := below_then hb3 hb4
    go_wp2_with fail
    go_ret
    exact ⟨rfl, hb5⟩
  have HSM2 := Lib.hid (hb rfl)
  obtain ⟨⟨d0, d1, d2, _⟩, d3, d4⟩ := HD.out.on hk3
  have HC3 : Hid (TabCtx lock needs ps (.slice a0 ps.length cap0) (.slice a1 lock.length cap1) (.slice a2 needs.length cap2) w3) := SmallP.ctx HSM.out (HP.out.below hb3 (Nat.le_refl _)) (HL.out.below hb3 (Nat.le_refl _)) (HN.out.below hb3 (Nat.le_refl _)) (HE.out.below hb3)
  have HD3 : Hid (RpS w.heap.size (.slice a0 ps.length cap0) (.slice a1 lock.length cap1) (.slice a2 needs.length cap2) (w.heap.size + 1) (.string nm) (.slice oa os.length oc) w3 w3) := ⟨⟨d0, d1, d2, Below.refl _ _⟩, d3, d4⟩
  have HB3 := Lib.hid hb3
  clear hb hk3 hb3 hsz hsz2
  go_wp2_with fail
  refine (table_as HC3.out).mono ?_
  rintro e w4 ⟨x, ts, rfl, hpq, htq, hk4, hq4⟩
  obtain ⟨hnx, xa, xc, rfl⟩ := hpq.len
  have hnx2 : ts.length ≤ 9223372036854775807 := Nat.le_trans hnx (by decide)
  have hb4 := below_then HB3.out hk4
  obtain ⟨⟨f0, f1, f2, _⟩, f3, f4⟩ := HD3.out.on hk4
  have HD4 : Hid (RpS w.heap.size (.slice a0 ps.length cap0) (.slice a1 lock.length cap1) (.slice a2 needs.length cap2) (w.heap.size + 1) (.string nm) (.slice oa os.length oc) w4 w4) := ⟨⟨f0, f1, f2, Below.refl _ _⟩, f3, f4⟩
  have HPQ := Lib.hid hpq
  have HTQ := Lib.hid htq
  have HQ4 := Lib.hid hq4
  have HB4 := Lib.hid hb4
  have HN4 := Lib.hid (HN.out.below hb4 (Nat.le_refl _))
  clear hpq htq hq4 hk4 hb4 d0 d1 d2 d3 d4 f0 f1 f2 f3 f4 hnx
  have hnl : needs.length ≤ 9223372036854775807 := Nat.le_trans HN.out.len.1 (by decide)
  go_wp2_with fail
  go_loopw [6, 7] (fun x i wr => ReaC ts nm w4 x i wr) (fun _ i _ => ts.length - (intOf i).toNat)
  case atStart => exact ⟨0, false, Nat.zero_le _, rfl, rfl, fun _ j _ h => absurd h (Nat.not_lt_zero _), Below.refl _ _⟩
  case round =>
    obtain ⟨k, m, hk, rfl, rfl, hall, hb⟩ := hrel
    have HAl := Lib.hid hall
    obtain ⟨⟨f0, f1, f2, _⟩, f3, f4⟩ := HD4.out.on hb
    have hz3 := cell_lt f3
    have hz2 := cell_lt f2
    clear hall
    by_cases hlt : k < ts.length
    · have i0 : (0 : Int) ≤ (k : Int) := by omega
      have i1 : (k : Int) < (ts.length : Int) := by omega
      obtain ⟨bx, ox, rfl, hbx, g0, g1⟩ := HPQ.out.at' hb hlt
      have hRT := fun r => @reach_true _ _ _ _ HTQ.out k hlt r
      have hRi : Hid (0 < k → Op.bytesLess (ts[k - 1]'(by omega)).name.toList ts[k].name.toList = true) := fun h => rises_table HTQ.out h hlt
      obtain ⟨⟨tn, tos, ta, tc⟩, hxe⟩ : ∃ x, ts[k] = x := ⟨_, rfl⟩
      have HX := Lib.hid hxe
      rw [hxe] at g0 g1 hRT hRi
      simp only [DPack.ov] at g0 g1 hRT hRi
      have HRT := Lib.hid hRT
      obtain ⟨eq, heq⟩ : ∃ b, (tn.toList == nm.toList) = b := ⟨_, rfl⟩
      have HEq := Lib.hid heq
      obtain ⟨w9, rfl⟩ : ∃ x, x = wr := ⟨_, rfl⟩
      have HB9 := Lib.hid hb
      have HF := Lib.hid (⟨⟨f0, f1, f2, Below.refl _ _⟩, f3, f4⟩ : RpS w.heap.size (.slice a0 ps.length cap0) (.slice a1 lock.length cap1) (.slice a2 needs.length cap2) (w.heap.size + 1) (.string nm) (.slice oa os.length oc) w9 w9)
      clear hxe hRT
      go_upto_region 8 with fail
      go_cut [6] (fun x wx => ∃ m', x = .bool m' ∧ (m' = false → m = false ∧ tn ≠ nm) ∧ Below w9.heap.size w9 wx)
      case first =>
        cases m
        · cases eq
          · have HNe : Hid (tn ≠ nm) := by
              show _ ≠ _
              intro e; rw [e] at heq; simp at heq
            go_wp2_with fail
            go_quiet (fail)
            go_wp2_with fail
            go_meet
            case rel => exact ⟨false, by first | rfl | trivial, fun _ => ⟨by trivial, HNe.out⟩, below_drewN (Below.refl _ _) _⟩
          · go_wp2_with fail
            go_quiet (fail)
            go_wp2_with fail
            go_meet
            case rel => exact ⟨true, rfl, (fun h => by cases h), below_drewN (Below.refl _ _) _⟩
        · go_wp2_with fail
          go_quiet (fail)
          go_wp2_with fail
          go_meet
          case rel => exact ⟨true, rfl, (fun h => by cases h), below_drewN (Below.refl _ _) _⟩
      case rest =>
        obtain ⟨m', rfl, hm', hbc⟩ := hcut
        have HM' := Lib.hid hm'
        obtain ⟨⟨e0, e1, e2, _⟩, e3, e4⟩ := RpS.on HF.out hbc
        have HC' := Lib.hid (⟨⟨e0, e1, e2, Below.refl _ _⟩, e3, e4⟩ : RpS w.heap.size (.slice a0 ps.length cap0) (.slice a1 lock.length cap1) (.slice a2 needs.length cap2) (w.heap.size + 1) (.string nm) (.slice oa os.length oc) wc wc)
        have hb9 := below_then HB9.out hbc
        have HBc := Lib.hid hb9
        have HXc := Lib.hid hbc
        have HNc := Lib.hid (HN4.out.below hb9 (Nat.le_refl _))
        have hzc := cell_lt e2
        obtain ⟨bn, on', hno, hbn, t0, t1⟩ := HPQ.out.at' hb9 hlt
        injection hno with hno
        injection hno with hn1 hn2
        subst hn1 hn2
        rw [HX.out] at t0 t1
        have HT0 := Lib.hid t0
        simp only [DPack.ov] at t1
        clear hm' hbc hb9 f0 f1 f2 f3 f4 g0 g1 hz3 hz2 t1 heq hb
        go_wp2_with fail
        go_loopw [8, 9] (fun x i wy => ReaN needs tn wc x i wy) (fun _ i _ => needs.length - (intOf i).toNat)
        case atStart => exact ⟨0, false, Nat.zero_le _, rfl, rfl, fun _ j _ h => absurd h (Nat.not_lt_zero _), Below.refl _ _⟩
        case round =>
          obtain ⟨j, r, hj, rfl, rfl, hall, hb⟩ := hrel
          have HAn := Lib.hid hall
          obtain ⟨⟨_, _, q2, _⟩, _, _⟩ := RpS.on HC'.out hb
          have u0 := cell_on HT0.out hb
          have hzq := cell_lt q2
          have hbn2 := cell_lt u0
          clear hall e0 e1 e2 e3 e4 t0 hzc
          by_cases hlt2 : j < needs.length
          · have j0 : (0 : Int) ≤ (j : Int) := by omega
            have j1 : (j : Int) < (needs.length : Int) := by omega
            obtain ⟨by', oy, rfl, hby, c0, _⟩ := HNc.out.at' hb hlt2
            obtain ⟨eq2, heq2⟩ : ∃ b, ((S needs[j].1.name).toList == tn.toList) = b := ⟨_, rfl⟩
            have HNe : Hid (eq2 = false → S needs[j].1.name ≠ tn) := by
              show _ → _
              intro h e; rw [h, e] at heq2; simp at heq2
            have HAj : Hid (∀ (r2 : Bool), (r2 = false → r = false ∧ eq2 = false) → r2 = false → ∀ i (h : i < needs.length), i < j + 1 → S needs[i].1.name ≠ tn) := by
              show ∀ _, _
              intro r2 h1 h2 i hi hij
              obtain ⟨h3, h4⟩ := h1 h2
              rcases Nat.lt_succ_iff_lt_or_eq.1 hij with h | rfl
              · exact HAn.out h3 i hi h
              · exact HNe.out h4
            cases r
            · cases eq2
              · go_wp2_with fail
                go_quiet (fail)
                go_wp2_with fail
                go_roundw
                case rel => exact ⟨j + 1, false, hlt2, rfl, by go_num, HAj.out false (fun _ => by simp), below_drewN hb _⟩
                case measure => simp [intOf]; omega
              · go_wp2_with fail
                go_quiet (fail)
                go_wp2_with fail
                go_roundw
                case rel => exact ⟨j + 1, true, hlt2, rfl, by go_num, (fun h => by cases h), below_drewN hb _⟩
                case measure => simp [intOf]; omega
            · go_wp2_with fail
              go_quiet (fail)
              go_wp2_with fail
              go_roundw
              case rel => exact ⟨j + 1, true, hlt2, rfl, by go_num, (fun h => by cases h), below_drewN hb _⟩
              case measure => simp [intOf]; omega
          · have j1 : decide (j < needs.length) = false := decide_eq_false hlt2
            have HNo : Hid (r = false → NoN needs tn) := fun h => all_of_to fun i hi _ => HAn.out h i hi (by omega)
            have hb5 := below_then HBc.out hb
            obtain ⟨w8, rfl⟩ : ∃ x, x = wr := ⟨_, rfl⟩
            have HB8 := Lib.hid hb5
            have HT8 := Lib.hid u0
            have HX8 := Lib.hid (below_then HXc.out hb)
            clear hlt2 u0 hb hb5 hbn2
            go_wp2_with fail
            go_loopw [8, 10] (fun x i wy => ReaT needs ts tn w8 x i wy) (fun _ i _ => ts.length - (intOf i).toNat)
            case atStart => exact ⟨0, r, Nat.zero_le _, rfl, rfl, fun h => ⟨HNo.out h, fun t ht => by simp at ht⟩, Below.refl _ _⟩
            case round =>
              obtain ⟨l, r2, hl, rfl, rfl, hall2, hb⟩ := hrel
              have HAt := Lib.hid hall2
              have hb6 := below_then HB8.out hb
              have s8 := cell_on HT8.out hb
              clear hall2
              by_cases hlt3 : l < ts.length
              · have l0 : (0 : Int) ≤ (l : Int) := by omega
                have l1 : (l : Int) < (ts.length : Int) := by omega
                obtain ⟨bl, ol, hlo, hbl, v0, v1⟩ := HPQ.out.at' hb6 hlt3
                injection hlo with hlo
                injection hlo with hl1 hl2
                subst hl1 hl2
                obtain ⟨v2, v3⟩ := HPQ.out.2 _ (List.getElem_mem hlt3)
                have HTk := Lib.hid (List.take_succ_eq_append_getElem hlt3)
                obtain ⟨⟨ln, los, la, lc⟩, hle⟩ : ∃ x, ts[l] = x := ⟨_, rfl⟩
                rw [hle] at v0 v1 v2 v3 HTk
                simp only [DPack.ov] at v1 v2 v3
                have HV1 := Lib.hid v1
                have HV2 := Lib.hid (v2.below hb6 (Nat.le_refl _))
                have hlos : los.length ≤ 9223372036854775807 := Nat.le_trans v2.1.len.1 (by decide)
                obtain ⟨w7, rfl⟩ : ∃ x, x = wr := ⟨_, rfl⟩
                have HB7 := Lib.hid hb
                have HT7 := Lib.hid s8
                have hzl := cell_lt v0
                clear hle v0 v2 v3 hb6 hb s8
                go_wp2_with fail
                go_loopw [8, 11] (fun x i wy => ReaO (NoN needs tn ∧ NoT (ts.take l) tn) los tn w7 x i wy) (fun _ i _ => los.length - (intOf i).toNat)
                case atStart => exact ⟨0, r2, Nat.zero_le _, rfl, rfl, fun h => ⟨HAt.out h, fun o ho => by simp at ho⟩, Below.refl _ _⟩
                case round =>
                  obtain ⟨q, r3, hq, rfl, rfl, hall3, hb⟩ := hrel
                  have HAo := Lib.hid hall3
                  have x1 := cell_on HV1.out hb
                  have s7 := cell_on HT7.out hb
                  have hzx := cell_lt x1
                  clear hall3 v1 hzl
                  by_cases hlt4 : q < los.length
                  · have q0 : (0 : Int) ≤ (q : Int) := by omega
                    have q1 : (q : Int) < (los.length : Int) := by omega
                    obtain ⟨bq, oq, rfl, hbq, _, _, _, _, _, y5⟩ := HV2.out.1.at' hb hlt4
                    have hok := HV2.out.2 _ (List.getElem_mem hlt4)
                    have HTo := Lib.hid (List.take_succ_eq_append_getElem hlt4)
                    obtain ⟨⟨ov, oy', ons, ona, onc⟩, hoe⟩ : ∃ x, los[q] = x := ⟨_, rfl⟩
                    rw [hoe] at y5 hok HTo
                    simp only [DOff.nv] at y5
                    have hW := hok.1.below hb (Nat.le_refl _)
                    simp only [DOff.nv] at hW
                    have HW := Lib.hid hW
                    have hons : ons.length ≤ 9223372036854775807 := Nat.le_trans hok.1.len.1 (by decide)
                    have HY5 := Lib.hid y5
                    have HX1 := Lib.hid x1
                    obtain ⟨w6, rfl⟩ : ∃ x, x = wr := ⟨_, rfl⟩
                    have HB6 := Lib.hid hb
                    have HT6 := Lib.hid s7
                    have hzy := cell_lt y5
                    clear hoe hok hb hW s7
                    go_wp2_with fail
                    go_loopw [8, 12] (fun x i wy => ReaM ((NoN needs tn ∧ NoT (ts.take l) tn) ∧ NoO (los.take q) tn) ons tn w6 x i wy) (fun _ i _ => ons.length - (intOf i).toNat)
                    case atStart => exact ⟨0, r3, Nat.zero_le _, rfl, rfl, fun h => ⟨HAo.out h, fun n hn => by simp at hn⟩, Below.refl _ _⟩
                    case round =>
                      obtain ⟨z, r4, hz, rfl, rfl, hall4, hb⟩ := hrel
                      have HAz := Lib.hid hall4
                      have z1 := cell_on HX1.out hb
                      have z2 := cell_on HY5.out hb
                      have s6 := cell_on HT6.out hb
                      have hzz := cell_lt z1
                      have hzw := cell_lt z2
                      have hzs := cell_lt s6
                      clear hall4 x1 y5 hzx hzy
                      by_cases hlt5 : z < ons.length
                      · have z3 : (0 : Int) ≤ (z : Int) := by omega
                        have z4 : (z : Int) < (ons.length : Int) := by omega
                        obtain ⟨bz, oz, rfl, hbz, c0, _⟩ := HW.out.at' hb hlt5
                        obtain ⟨eq2, heq2⟩ : ∃ b, ((S ons[z].1.name).toList == tn.toList) = b := ⟨_, rfl⟩
                        have HNz : Hid (∀ (r5 : Bool), (r5 = false → r4 = false ∧ eq2 = false) → r5 = false → ((NoN needs tn ∧ NoT (ts.take l) tn) ∧ NoO (los.take q) tn) ∧ NoN (ons.take (z + 1)) tn) := by
                          show ∀ _, _
                          intro r5 h1 h2
                          obtain ⟨h3, h4⟩ := h1 h2
                          obtain ⟨h5, h6⟩ := HAz.out h3
                          refine ⟨h5, fun n hn => ?_⟩
                          rw [List.take_succ_eq_append_getElem hlt5] at hn
                          rcases List.mem_append.1 hn with hn | hn
                          · exact h6 n hn
                          · simp at hn; subst hn
                            intro e; rw [e, h4] at heq2; simp at heq2
                        cases r4
                        · cases eq2
                          · go_wp2_with fail
                            go_quiet (fail)
                            go_wp2_with fail
                            go_roundw
                            case rel => exact ⟨z + 1, false, hlt5, rfl, by go_num, HNz.out false (fun _ => by simp), below_drewN hb _⟩
                            case measure => simp [intOf]; omega
                          · go_wp2_with fail
                            go_quiet (fail)
                            go_wp2_with fail
                            go_roundw
                            case rel => exact ⟨z + 1, true, hlt5, rfl, by go_num, (fun h => by cases h), below_drewN hb _⟩
                            case measure => simp [intOf]; omega
                        · go_wp2_with fail
                          go_quiet (fail)
                          go_wp2_with fail
                          go_roundw
                          case rel => exact ⟨z + 1, true, hlt5, rfl, by go_num, (fun h => by cases h), below_drewN hb _⟩
                          case measure => simp [intOf]; omega
                      · have z5 : decide (z < ons.length) = false := decide_eq_false hlt5
                        have HNq : Hid (r4 = false → (NoN needs tn ∧ NoT (ts.take l) tn) ∧ NoO (los.take (q + 1)) tn) := by
                          show _ → _
                          intro h
                          obtain ⟨⟨h1, h2⟩, h3⟩ := HAz.out h
                          rw [List.take_of_length_le (by omega)] at h3
                          refine ⟨h1, fun o ho => ?_⟩
                          rw [HTo.out] at ho
                          rcases List.mem_append.1 ho with ho | ho
                          · exact h2 o ho
                          · simp at ho; subst ho; exact h3
                        have hb7 := below_then HB6.out hb
                        clear hlt5
                        go_wp2_with fail
                        go_roundw
                        case rel => exact ⟨q + 1, r4, hlt4, rfl, by go_num, HNq.out, hb7⟩
                        case measure => simp [intOf]; omega
                  · have q5 : decide (q < los.length) = false := decide_eq_false hlt4
                    have HNl : Hid (r3 = false → NoN needs tn ∧ NoT (ts.take (l + 1)) tn) := by
                      show _ → _
                      intro h
                      obtain ⟨⟨h1, h2⟩, h3⟩ := HAo.out h
                      rw [List.take_of_length_le (by omega)] at h3
                      refine ⟨h1, fun t ht => ?_⟩
                      rw [HTk.out] at ht
                      rcases List.mem_append.1 ht with ht | ht
                      · exact h2 t ht
                      · simp at ht; subst ht; exact h3
                    have hb7 := below_then HB7.out hb
                    clear hlt4
                    go_wp2_with fail
                    go_roundw
                    case rel => exact ⟨l + 1, r3, hlt3, rfl, by go_num, HNl.out, hb7⟩
                    case measure => simp [intOf]; omega
              · have l5 : decide (l < ts.length) = false := decide_eq_false hlt3
                have hr2 : r2 = true := HRT.out _ fun h => by
                  have := HAt.out h
                  rwa [List.take_of_length_le (by omega)] at this
                subst hr2
                have hbE := below_then HB9.out (below_then HX8.out hb)
                have HAm : Hid (m' = false → ∀ j (h : j < ts.length), j < k + 1 → ts[j].name ≠ nm) := by
                  show _ → _
                  intro h i hi hik
                  obtain ⟨h1, h2⟩ := HM'.out h
                  rcases Nat.lt_succ_iff_lt_or_eq.1 hik with h3 | rfl
                  · exact HAl.out h1 i hi h3
                  · rw [HX.out]; exact h2
                clear hlt3
                by_cases hk0 : k = 0
                · have k0 : decide (0 < k) = false := decide_eq_false (by omega)
                  clear hk0
                  go_wp2_with fail
                  go_quiet (fail)
                  go_wp2_with fail
                  go_roundw
                  case rel => exact ⟨k + 1, m', hlt, rfl, by go_num, HAm.out, below_drewN hbE _⟩
                  case measure => simp [intOf]; omega
                · have k0 : decide (0 < k) = true := decide_eq_true (by omega)
                  have k1 : (k : Int) - 1 = ((k - 1 : Nat) : Int) := by omega
                  have k2 : (0 : Int) ≤ ((k - 1 : Nat) : Int) := by omega
                  have k3 : ((k - 1 : Nat) : Int) < (ts.length : Int) := by omega
                  have hRi2 := hRi.out (by omega)
                  obtain ⟨bk, ok, hko, hbk, v0, _⟩ := HPQ.out.at' hb6 (show k - 1 < ts.length by omega)
                  injection hko with hko
                  injection hko with hk1 hk2
                  subst hk1 hk2
                  obtain ⟨un, hun⟩ : ∃ x, (ts[k - 1]'(by omega)).name = x := ⟨_, rfl⟩
                  rw [hun] at hRi2 v0
                  have k4 : IntKind.i64.wrap ((k - 1 : Nat) : Int) = ((k - 1 : Nat) : Int) := by rw [IntKind.wrap_i64]; omega
                  have hzv := cell_lt v0
                  clear hk0 hun
                  go_wp2_with fail
                  go_quiet (fail)
                  go_wp2_with fail
                  go_roundw
                  case rel => exact ⟨k + 1, m', hlt, rfl, by go_num, HAm.out, below_drewN hbE _⟩
                  case measure => simp [intOf]; omega
    · have k5 : decide (k < ts.length) = false := decide_eq_false hlt
      have hb5 := below_then HB4.out hb
      cases m
      · have hno : pname ⟨nm, os, oa, oc⟩ ∉ ts.map pname := by
          intro h
          obtain ⟨t, ht, he⟩ := List.mem_map.1 h
          obtain ⟨j, hj, rfl⟩ := List.getElem_of_mem ht
          refine HAl.out rfl j hj (by omega) ?_
          have : S (pname ts[j]) = S (pname (⟨nm, os, oa, oc⟩ : DPack)) := by rw [he]
          rw [pname_S, pname_S] at this
          exact this
        have HMo := Lib.hid (HTQ.out.more ⟨nm, os, oa, oc⟩ hno)
        have hd : Below w4.heap.size w4 wr.drew := hb.drew
        have HB5 := Lib.hid (below_then HB4.out hd)
        have hst : RpS w.heap.size (.slice a0 ps.length cap0) (.slice a1 lock.length cap1) (.slice a2 needs.length cap2) (w.heap.size + 1) (.string nm) (.slice oa os.length oc) wr.drew wr.drew := by
          obtain ⟨⟨e0, e1, e2, _⟩, e3, e4⟩ := HD4.out.on hd
          exact ⟨⟨e0, e1, e2, Below.refl _ _⟩, e3, e4⟩
        have HQd := Lib.hid (HPQ.out.below hd (Nat.le_refl _))
        have HPd := Lib.hid (HP.out.below HB5.out (Nat.le_refl _))
        obtain ⟨i0', hi, hq0, hq1, hq2⟩ : ∃ i, Tryz.prog.info? 29 = some i ∧ i.zero = some (.agg #[.string ⟨#[]⟩, .slice none 0 0]) ∧ i.size = 2 ∧ i.bytes = 40 := by
          have := info_pack
          rcases h : Tryz.prog.info? 29 with _ | i
          · rw [h] at this; cases this
          · rw [h] at this
            simp only [Option.map_some, Option.some.injEq, Prod.mk.injEq] at this
            exact ⟨i, rfl, this.1, this.2.1, this.2.2⟩
        have hfew := HSM.out.few
        have hpl : (ps.flatMap DPack.cells).length = ps.length * 2 := HP.out.1.1
        have h1c : ∀ u ∈ ps.flatMap DPack.cells, u.oneCell' = true := fun u hu => by
          obtain ⟨p, _, hp⟩ := List.mem_flatMap.1 hu
          simp [DPack.cells, DPack.ov] at hp
          rcases hp with rfl | rfl <;> rfl
        clear hlt hb f0 f1 f2 f3 f4 hz3 hz2 hno hb5
        go_wp2_with fail
        refine wp_region_held_drew (S := (fun W => RpS w.heap.size (.slice a0 ps.length cap0) (.slice a1 lock.length cap1) (.slice a2 needs.length cap2) (w.heap.size + 1) (.string nm) (.slice oa os.length oc) wr.drew W)) (by kernel_rfl) (hst) (fun hHeld => ?_)
        generalize wr.drew = wd at *
        refine wpAnyH_take (i := 0) (v := ?_) rfl (by kernel_rfl) (by kernel_rfl) (by kernel_rfl) (fun _ _ _ h => h) (Or.inl ⟨by kernel_rfl, ?_⟩) hHeld ?_
        rotate_left
        · (rintro W ⟨⟨e0, e1, e2, _⟩, e3, e4⟩; go_simp; (try with_reducible rfl))
        (try simp only [Act.put, List.getElem_toArray, List.getElem_cons_zero, List.setIfInBounds_toArray, List.set_cons_succ, List.set_cons_zero])
        refine wpAnyH_take (i := 2) (v := ?_) rfl (by kernel_rfl) (by kernel_rfl) (by kernel_rfl) (fun _ _ _ h => h) (Or.inl ⟨by kernel_rfl, ?_⟩) hHeld ?_
        rotate_left
        · (rintro W ⟨⟨e0, e1, e2, _⟩, e3, e4⟩; go_simp; (try with_reducible rfl))
        (try simp only [Act.put, List.getElem_toArray, List.getElem_cons_succ, List.getElem_cons_zero, List.setIfInBounds_toArray, List.set_cons_succ, List.set_cons_zero])
        refine wpAnyH_take (i := 3) (v := ?_) rfl (by kernel_rfl) (by kernel_rfl) (by kernel_rfl) (fun _ _ _ h => h) (Or.inl ⟨by kernel_rfl, ?_⟩) hHeld ?_
        rotate_left
        · (rintro W ⟨⟨e0, e1, e2, _⟩, e3, e4⟩; go_simp; (try with_reducible rfl))
        (try simp only [Act.put, List.getElem_toArray, List.getElem_cons_succ, List.getElem_cons_zero, List.setIfInBounds_toArray, List.set_cons_succ, List.set_cons_zero])
        refine wpAnyH_take (i := 5) (v := ?_) rfl (by kernel_rfl) (by kernel_rfl) (by kernel_rfl) (fun _ _ _ h => h) (Or.inl ⟨by kernel_rfl, ?_⟩) hHeld ?_
        rotate_left
        · (rintro W ⟨⟨e0, e1, e2, _⟩, e3, e4⟩; go_simp; (try with_reducible rfl))
        (try simp only [Act.put, List.getElem_toArray, List.getElem_cons_succ, List.getElem_cons_zero, List.setIfInBounds_toArray, List.set_cons_succ, List.set_cons_zero])
        refine wpAnyH_take (i := 6) (v := ?_) rfl (by kernel_rfl) (by kernel_rfl) (by kernel_rfl) (fun _ _ _ h => h) (Or.inl ⟨by kernel_rfl, ?_⟩) hHeld ?_
        rotate_left
        · (rintro W ⟨⟨e0, e1, e2, _⟩, e3, e4⟩; go_simp; (try with_reducible rfl))
        (try simp only [Act.put, List.getElem_toArray, List.getElem_cons_succ, List.getElem_cons_zero, List.setIfInBounds_toArray, List.set_cons_succ, List.set_cons_zero])
        refine wpAnyH_take (i := 7) (v := ?_) rfl (by kernel_rfl) (by kernel_rfl) (by kernel_rfl) (fun _ _ _ h => h) (Or.inl ⟨by kernel_rfl, ?_⟩) hHeld ?_
        rotate_left
        · (rintro W ⟨⟨e0, e1, e2, _⟩, e3, e4⟩; go_simp; (try with_reducible rfl))
        (try simp only [Act.put, List.getElem_toArray, List.getElem_cons_succ, List.getElem_cons_zero, List.setIfInBounds_toArray, List.set_cons_succ, List.set_cons_zero])
        refine wpAnyH_take (i := 8) (v := ?_) rfl (by kernel_rfl) (by kernel_rfl) (by kernel_rfl) (fun _ _ _ h => h) (Or.inl ⟨by kernel_rfl, ?_⟩) hHeld ?_
        rotate_left
        · (rintro W ⟨⟨e0, e1, e2, _⟩, e3, e4⟩; go_simp; (try with_reducible rfl))
        (try simp only [Act.put, List.getElem_toArray, List.getElem_cons_succ, List.getElem_cons_zero, List.setIfInBounds_toArray, List.set_cons_succ, List.set_cons_zero])
        refine wpAnyH_ready (rs := [1]) (by kernel_rfl) (by simp) ?_
        refine AllReadyH.cons rfl (fun K hK => ?_) AllReadyH.nil
        go_simp
        have hal1 := (Below.refl wd.heap.size wd).alloc (Nat.le_refl _) (.cells #[.string nm, .slice oa os.length oc] 29)
        have how := own_lit (base := wd.heap.size) (size := 2) (xs := [.string nm, .slice oa os.length oc]) (Below_heap_new wd (.cells #[.string nm, .slice oa os.length oc] 29)) (Nat.le_refl _) rfl
        have hsr := row_src (HPd.out.below hal1 (Nat.le_refl _)).1
        refine hK.out _ _ (hst.on hal1) (fun hHeld => ?_)
        clear hK K
        (try simp only [Act.put, List.getElem_toArray, List.getElem_cons_succ, List.getElem_cons_zero, List.setIfInBounds_toArray, List.set_cons_succ, List.set_cons_zero])
        refine wpAnyH_ready (rs := [4]) (by kernel_rfl) (by simp) ?_
        refine AllReadyH.cons rfl (fun K hK => ?_) AllReadyH.nil
        refine step_app (by rfl) (.tmp 146) (.tmp 148) 22 (by rfl) wd.heap.size 29 i0' (.agg #[.string ⟨#[]⟩, .slice none 0 0]) 2 40 Tryz.underlying22 hi hq0 hq1 hq2 rfl (by decide) (.slice (some ⟨wd.heap.size, 0, none⟩) 1 1) 1 _ (by simp [Act.eval]) how a0 ps.length cap0 (ps.flatMap DPack.cells) (by simp [Act.eval]) hpl hsr h1c (by unfold maxLen; omega) (by omega) hal1.size ?_
        intro v5 w5 how5 hg5 _
        have hal5 := below_grown hal1 how hg5 hal1.size
        have hst5 := hst.on hal5
        have hb5 := HB5.out.trans (hal5.mono HB5.out.size)
        refine hK.out _ _ (hst5) (fun hHeld => ?_)
        clear hK K
        (try simp only [Act.put, List.getElem_toArray, List.getElem_cons_succ, List.getElem_cons_zero, List.setIfInBounds_toArray, List.set_cons_succ, List.set_cons_zero])
        refine wpAnyH_ready (rs := [9]) (by kernel_rfl) (by simp) ?_
        refine AllReadyH.cons rfl (fun K hK => ?_) AllReadyH.nil
        go_simp
        have hpk5 : Packs w5 v5 (⟨nm, os, oa, oc⟩ :: ps) := ⟨by have h := Row.of_owns how5; rw [Nat.add_comm] at h; exact h, fun p hp => by
          rcases List.mem_cons.1 hp with rfl | hp
          · exact ⟨HO.out.below hb5 (Nat.le_refl _), _, _, rfl⟩
          · exact (HP.out.2 p hp).below hb5 (Nat.le_refl _)⟩
        refine (table_as (ctx_more HSM.out HSM2.out hpk5 (HL.out.below hb5 (Nat.le_refl _)) (HN.out.below hb5 (Nat.le_refl _)) (HE.out.below hb5))).mono ?_
        rintro e w7 ⟨y, us, rfl, hpu, htu, hk7, _⟩
        obtain ⟨_, ya, yc, rfl⟩ := hpu.len
        have h2t := two_tables HMo.out htu
        have HU := Lib.hid (⟨hpu, h2t⟩ : _ ∧ _)
        have hst7 := hst5.on hk7
        clear hpk5 hpu htu h2t
        refine hK.out _ _ (hst7) (fun hHeld => ?_)
        clear hK K
        (try simp only [Act.put, List.getElem_toArray, List.getElem_cons_succ, List.getElem_cons_zero, List.setIfInBounds_toArray, List.set_cons_succ, List.set_cons_zero])
        refine wpAnyH_take (i := 10) (v := ?_) rfl (by kernel_rfl) (by kernel_rfl) (by kernel_rfl) (fun _ _ _ h => h) (Or.inl ⟨by kernel_rfl, ?_⟩) hHeld ?_
        rotate_left
        · (rintro W ⟨⟨e0, e1, e2, _⟩, e3, e4⟩; go_simp; (try with_reducible rfl))
        (try simp only [Act.put, List.getElem_toArray, List.getElem_cons_succ, List.getElem_cons_zero, List.setIfInBounds_toArray, List.set_cons_succ, List.set_cons_zero])
        refine wpAnyH_done (by kernel_rfl) ?_ _
        have hb7 := HB5.out.trans (hHeld.1.2.2.2.mono HB5.out.size)
        have HP7 := Lib.hid (HQd.out.below hHeld.1.2.2.2 (Nat.le_refl _))
        clear hst hHeld
        go_wp2_with fail
        refine (rsameP_any _ _ ts us _ HP7.out HU.out.1 HU.out.2.1 HU.out.2.2 HQ4.out).mono ?_
        rintro e w8 ⟨rfl, hb8⟩
        have hb9 := below_then hb7 hb8
        have HAw := Lib.hid (awake_any w8 (HE.out.below hb9))
        go_wp2_with fail
        refine HAw.out.mono ?_
        rintro e w9 ⟨rfl, hb10⟩
        have hb11 := below_then hb9 hb10
        go_wp2_with fail
        go_ret
        exact ⟨rfl, hb11⟩
      · have HAw := Lib.hid (awake_any wr (HE.out.below hb5))
        go_wp2_with fail
        refine HAw.out.mono ?_
        rintro e w5 ⟨rfl, hb6⟩
        have hb7 := below_then hb5 hb6
        go_wp2_with fail
        go_ret
        exact ⟨rfl, hb7⟩
end Go.Proofs.YtllkiedikjgkbaaGreatDoor
