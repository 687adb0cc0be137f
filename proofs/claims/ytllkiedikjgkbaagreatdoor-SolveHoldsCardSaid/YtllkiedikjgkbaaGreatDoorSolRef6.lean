/- The reference of Holds: the walk. -/
import Derived.Test.YtllkiedikjgkbaaGreatDoorSolRow
import Derived.Test.YtllkiedikjgkbaaGreatDoorRefsS
import Derived.Test.YtllkiedikjgkbaaGreatDoorRefHold
import Derived.Test.YtllkiedikjgkbaaGreatDoorTabRefs
import Derived.Test.YtllkiedikjgkbaaGreatDoorSol10
namespace Go
open Go.RowKit
theorem RowN.ofRow {g : Nat} {T : TypeId} {n : Nat} {f : Nat → Nat} {W : World} (h : W.rowIs g T n (fun j => .int .i64 ((f j : Nat) : Int))) : RowN g T n f W := by
  obtain ⟨c, h1, h2, h3⟩ := h
  exact ⟨c, h1, by omega, h3⟩
theorem RowN.row' {g : Nat} {T : TypeId} {n : Nat} {f : Nat → Nat} {W : World} (h : RowN g T n f W) (hm : n ≤ maxLen) : WayRow W (.slice (some ⟨g, 0, none⟩) n n) ((List.range n).map f) := by
  rcases Nat.eq_zero_or_pos n with h0 | h0
  · subst h0
    exact ⟨by simp, Nat.zero_le _, .inl ⟨_, _, rfl, rfl, fun h => by cases h⟩⟩
  · exact h.row (by simp) (fun j hj => by simp) h0 hm
def sumH (picks : List Pik) (nm : ByteArray) (os : List DOff) : Nat := (os.map fun o => hitsN picks nm o.v).sum
theorem sumH_succ {picks : List Pik} {nm : ByteArray} {os : List DOff} {k : Nat} (hk : k < os.length) : sumH picks nm (os.take (k + 1)) = sumH picks nm (os.take k) + hitsN picks nm os[k].v := by
  unfold sumH
  rw [List.take_succ_eq_append_getElem hk, List.map_append, List.sum_append]
  simp
theorem metN_sum (picks : List Pik) (p : DPack) : metN' picks p.pp = sumH picks p.name p.os := by
  unfold metN' sumH
  show ((p.os.map DOff.po).map _).sum = _
  rw [List.map_map]; rfl
def hitJ (picks : List Pik) (nm : ByteArray) (v : V4) (j : Nat) : Nat := ((picks.take j).filter (hitB nm v)).length
theorem hitJ_succ {picks : List Pik} {nm : ByteArray} {v : V4} {j : Nat} (hj : j < picks.length) : hitJ picks nm v (j + 1) = hitJ picks nm v j + if hitB nm v picks[j] = true then 1 else 0 := by
  unfold hitJ
  rw [List.take_succ_eq_append_getElem hj, List.filter_append, List.length_append, List.filter_cons, List.filter_nil]
  split <;> rfl
theorem hitJ_le (picks : List Pik) (nm : ByteArray) (v : V4) (j : Nat) : hitJ picks nm v j ≤ picks.length := by
  unfold hitJ
  exact Nat.le_trans (List.length_filter_le _ _) (by rw [List.length_take]; omega)
theorem hitJ_all {picks : List Pik} {nm : ByteArray} {v : V4} {j : Nat} (hj : picks.length ≤ j) : hitJ picks nm v j = hitsN picks nm v := by
  unfold hitJ hitsN; rw [List.take_of_length_le hj]
theorem hits_le (picks : List Pik) (nm : ByteArray) (v : V4) : hitsN picks nm v ≤ picks.length := List.length_filter_le _ _
/-- what the region looks at -/
def RwS (g k a : Nat) (bt ot : Nat) (nm ov : Value) (w0 W : World) : Prop := W.cell? ⟨g, k, none⟩ = some (.int .i64 (a : Int)) ∧ W.cell? ⟨bt, ot, none⟩ = some nm ∧ W.cell? ⟨bt, ot + 1, none⟩ = some ov ∧ Below w0.heap.size w0 W
theorem RwS.on {g k a bt ot : Nat} {nm ov : Value} {w0 W W' : World} (h : RwS g k a bt ot nm ov w0 W) (hb : Below W.heap.size W W') : RwS g k a bt ot nm ov w0 W' := ⟨cell_on h.1 hb, cell_on h.2.1 hb, cell_on h.2.2.1 hb, below_then h.2.2.2 hb⟩
/-- the way found so far -/
def WayK (picks : List Pik) (nm : ByteArray) (os : List DOff) (a k : Nat) : Prop := (a = os.length ∧ ∀ q (h : q < os.length), q < k → hitsN picks nm os[q].v = 0) ∨ ∃ h : a < os.length, 0 < hitsN picks nm os[a].v
theorem WayK.next {picks : List Pik} {nm : ByteArray} {os : List DOff} {a k : Nat} (h : WayK picks nm os a k) (hk : k < os.length) : WayK picks nm os (if hitsN picks nm os[k].v = 0 then a else k) (k + 1) := by
  by_cases h0 : hitsN picks nm os[k].v = 0
  · rw [if_pos h0]
    rcases h with ⟨h1, h2⟩ | h1
    · refine .inl ⟨h1, fun q hq hqk => ?_⟩
      rcases Nat.lt_succ_iff_lt_or_eq.1 hqk with h | rfl
      · exact h2 q hq h
      · exact h0
    · exact .inr h1
  · rw [if_neg h0]; exact .inr ⟨hk, Nat.pos_of_ne_zero h0⟩
theorem WayK.done {picks : List Pik} {p : DPack} {a k : Nat} (h : WayK picks p.name p.os a k) (hk : p.os.length ≤ k) : WayR picks p.pp a := by
  have hl : p.pp.os.length = p.os.length := by show (p.os.map DOff.po).length = _; rw [List.length_map]
  have hv : ∀ q (h : q < p.os.length) (h' : q < p.pp.os.length), p.pp.os[q].v = p.os[q].v := fun q h h' => by
    have e : p.pp.os = p.os.map DOff.po := rfl
    have h2 : p.pp.os[q]? = some p.os[q].po := by rw [e, List.getElem?_map, List.getElem?_eq_getElem h]; rfl
    rw [List.getElem?_eq_getElem h'] at h2
    injection h2 with h2
    rw [h2]; rfl
  rcases h with ⟨h1, h2⟩ | ⟨h1, h2⟩
  · refine .inl ⟨by rw [hl]; exact h1, fun q hq => ?_⟩
    have hq' : q < p.os.length := by rw [← hl]; exact hq
    rw [hv q hq' hq]; exact h2 q hq' (by omega)
  · refine .inr ⟨by rw [hl]; exact h1, ?_⟩
    rw [hv a h1 (by rw [hl]; exact h1)]; exact h2
theorem rh_way {T : List PP} {ak : Nam → Bool} {picks : List Pik} (hT : TabW T) (hV : TabV T) {i a : Nat} (hi : i < T.length) (hw : WayR picks T[i] a) (hn : ¬ a < T[i].os.length + (if ak T[i].nm = true then 0 else 1)) : ¬ HoldsIs T ak picks := fun h => by
  obtain ⟨ws, h1, _, h2, _⟩ := holds_ref hT hV h
  exact hn (h1.2 i a _ (h2 i hi a hw) (ksOf_at hi))
theorem rh_names {T : List PP} {ak : Nam → Bool} {picks : List Pik} (hT : TabW T) (hV : TabV T) {i k : Nat} (hi : i < picks.length) (hk : k < i) (he : picks[i].name = picks[k].name) : ¬ HoldsIs T ak picks := fun h => by
  obtain ⟨ws, _, _, _, h2, _⟩ := holds_ref hT hV h
  exact List.pairwise_iff_getElem.1 h2 k i (by omega) hi hk he.symm
theorem rh_end {T : List PP} {ak : Nam → Bool} {picks : List Pik} (hT : TabW T) (hV : TabV T) {f : Nat → Nat} (hw : ∀ i (h : i < T.length), WayR picks T[i] (f i) ∧ f i < T[i].os.length + (if ak T[i].nm = true then 0 else 1))
    (ha : picks.Pairwise fun x y => x.name ≠ y.name) : (metsTo T picks T.length = picks.length ∧ GoodW T ak ((List.range T.length).map f)) ↔ HoldsIs T ak picks := by
  constructor
  · rintro ⟨h1, h2⟩
    exact ref_holds hT hV (by simp) h2 (fun i hi => ⟨f i, by simp [hi], (hw i hi).1, (hw i hi).2⟩) ha h1
  · intro h
    obtain ⟨ws, h1, h2, h3, _, h4⟩ := holds_ref hT hV h
    have hl : ws.length = T.length := by rw [h1.1]; unfold ksOf; rw [List.length_map]
    have e : ws = (List.range T.length).map f := by
      refine List.ext_getElem? fun i => ?_
      by_cases hi : i < T.length
      · rw [h3 i hi _ (hw i hi).1]; simp [hi]
      · rw [List.getElem?_eq_none (by omega), List.getElem?_eq_none (by simp; omega)]
    rw [← e]; exact ⟨h4, h2⟩
end Go
namespace Go.Proofs.YtllkiedikjgkbaaGreatDoor
open Go.RowKit Go.Maps
def RhtRel (T : List PP) (ak : Nam → Bool) (picks : List Pik) (n g : Nat) (w2 : World) (z i : Value) (wr : World) : Prop :=
  ∃ (k m : Nat) (f : Nat → Nat), k ≤ n ∧ i = .int .i64 (k : Int) ∧ z = .int .i64 (m : Int) ∧ m = metsTo T picks k ∧ m ≤ k * 40000000 ∧ RowN g 3 n f wr ∧ (∀ j (h : j < T.length), j < k → WayR picks T[j] (f j) ∧ f j < T[j].os.length + (if ak T[j].nm = true then 0 else 1)) ∧ Below w2.heap.size w2 wr
def RhoRel (picks : List Pik) (nm : ByteArray) (os : List DOff) (n g i m0 : Nat) (f : Nat → Nat) (w2 : World) (z x : Value) (wr : World) : Prop :=
  ∃ (k m a : Nat), k ≤ os.length ∧ x = .int .i64 (k : Int) ∧ z = .int .i64 (m : Int) ∧ m = m0 + sumH picks nm (os.take k) ∧ m ≤ m0 + k * 40 ∧ WayK picks nm os a k ∧ RowN g 3 n (fun j => if j = i then a else f j) wr ∧ Below w2.heap.size w2 wr
def RhpRel (picks : List Pik) (nm : ByteArray) (v : V4) (n g i k a m1 : Nat) (f : Nat → Nat) (w2 : World) (z x : Value) (wr : World) : Prop :=
  ∃ (j m : Nat), j ≤ picks.length ∧ x = .int .i64 (j : Int) ∧ z = .int .i64 (m : Int) ∧ m = m1 + hitJ picks nm v j ∧ RowN g 3 n (fun q => if q = i then (if hitJ picks nm v j = 0 then a else k) else f q) wr ∧ Below w2.heap.size w2 wr
def RhiRel (picks : List Pik) (w5 : World) (i : Value) (wr : World) : Prop :=
  ∃ k : Nat, k ≤ picks.length ∧ i = .int .i64 (k : Int) ∧ (∀ x (hx : x < picks.length) y (hy : y < x), x < k → picks[x].name ≠ picks[y].name) ∧ Below w5.heap.size w5 wr
def RhkRel (picks : List Pik) (i : Nat) (hi : i < picks.length) (w5 : World) (x : Value) (wr : World) : Prop :=
  ∃ k : Nat, k ≤ i ∧ x = .int .i64 (k : Int) ∧ (∀ y (hy : y < i), y < k → picks[i].name ≠ picks[y].name) ∧ Below w5.heap.size w5 wr
set_option maxRecDepth 100000 in
set_option maxHeartbeats 8000000 in
theorem rholds_as {lock : List Pik} {needs : List (Want × Value)} {ps : List DPack} {pk lk nv xv : Value} {w : World} {picks : List Pik} (C : TabCtx lock needs ps pk lk nv w) (hB : ∀ ts, TableIs lock needs ps ts → TabB (ppL ts)) (hx : Piks w xv picks) (hx40 : picks.length ≤ 40) :
    Calls Tryz.prog 30 #[pk, lk, nv, xv] w (HoldPost lock needs ps picks w) := by
  obtain ⟨xa, xc, rfl⟩ := hx.len
  have HC := Lib.hid C
  have HBt := Lib.hid hB
  have HX := Lib.hid hx
  have HTb := Lib.hid (rtable_any C)
  clear C hB hx
  go_enter Tryz.func30, Tryz.ntmps30
  go_wp2_with fail
  refine HTb.out.mono ?_
  rintro e w2 ⟨tv, ts, rfl, hts, hti, hb2, hos⟩
  obtain ⟨hmx, ta, tc, rfl⟩ := hts.len
  have HBd := Lib.hid (HBt.out ts hti)
  have hn6 : ts.length ≤ 1000000 := by have := HBd.out.few; rwa [ppL_len] at this
  have HTW := Lib.hid (table_W hti)
  have HTV := Lib.hid (table_V hti)
  have HT := Lib.hid hts
  have HN := Lib.hid (HC.out.wants.below hb2 (Nat.le_refl _))
  have HX2 := Lib.hid (HX.out.below hb2 (Nat.le_refl _))
  have HB2 := Lib.hid hb2
  have HPost : Hid (∀ (b : Bool) (W : World), (b = true ↔ HoldsIs (ppL ts) (askN needs) picks) → Below w2.heap.size w2 W → HoldPost lock needs ps picks w (.returned (.bool b)) W) := fun b W h hW => ⟨b, rfl, ⟨ts, hti, h⟩, below_then hb2 hW⟩
  have hmk := fun W : World => run_make_row' (P := Tryz.prog) 96 3 (.int .i64 0) 8 Tryz.underlying96 info_int rfl .i64 .i64 ts.length (by omega) (by omega) W
  have HR3 := Lib.hid (RowN.ofRow (f := fun _ => 0) (World.rowIs_made w2 (.int .i64 0) ts.length 3))
  have hal3 := (Below.refl w2.heap.size w2).alloc (Nat.le_refl _) (.cells (madeCells #[.int .i64 0] ts.length) 3)
  have HAl := Lib.hid hal3
  clear hts hti hos hmx hb2 hal3
  go_wp2_with fail
  generalize w2.alloc (.cells (madeCells #[.int .i64 0] ts.length) 3) = w3 at *
  go_loopw [11, 12] (fun z i wr => RhtRel (ppL ts) (askN needs) picks ts.length w2.heap.size w2 z i wr) (fun _ i _ => ts.length - (intOf i).toNat)
  case atStart => exact ⟨0, 0, _, Nat.zero_le _, rfl, rfl, rfl, Nat.zero_le _, HR3.out, fun j _ h => absurd h (Nat.not_lt_zero _), HAl.out⟩
  case round =>
    obtain ⟨i, m, f, hi, rfl, rfl, hm, hmb, hR, hf, hb⟩ := hrel
    have HM := Lib.hid (⟨hm, hmb⟩ : _ ∧ _)
    have HF := Lib.hid hf
    have HR := Lib.hid hR
    have HB := Lib.hid hb
    clear hm hmb hf
    by_cases hlt : i < ts.length
    · have i0 : (0 : Int) ≤ (i : Int) := by omega
      have i1 : (i : Int) < (ts.length : Int) := by omega
      have hiT : i < (ppL ts).length := by rw [ppL_len]; exact hlt
      have hTi : (ppL ts)[i] = ts[i].pp := ppL_at hiT hlt
      have hosl : ts[i].os.length ≤ 1000000 := by
        have := (HBd.out.os _ (List.getElem_mem hiT)).1
        rw [hTi] at this
        have h2 : (List.map DOff.po ts[i].os).length ≤ 1000000 := this
        rwa [List.length_map] at h2
      obtain ⟨bx, ox, rfl, hbx, c0, c1⟩ := HT.out.at' (Below.refl _ _) hlt
      have HOk := Lib.hid (HT.out.2 _ (List.getElem_mem hlt)).1
      generalize ts[i]'hlt = p at hTi hosl c0 c1 HOk
      obtain ⟨xn, xo, xa', xc'⟩ := p
      simp only [DPack.ov] at hosl c0 c1 HOk
      have HTi := Lib.hid hTi
      have HC2 := Lib.hid (⟨c0, c1⟩ : _ ∧ _)
      have HOl := Lib.hid hosl
      have hos64 : xo.length ≤ 9223372036854775807 := by omega
      have c1r := cell_on c1 hb
      have r5 := hR.cell hlt
      have fr5 := hR.free i
      have hz5 := hR.lt
      have HR6 := Lib.hid (hR.set (i := i) xo.length (v := (xo.length : Int)) rfl (f' := fun j => if j = i then xo.length else f j) (fun t _ => rfl))
      have HB6 : Hid (Below w2.heap.size w2 (wr.setCell ⟨w2.heap.size, i, none⟩ (.int .i64 (xo.length : Int)))) := hb.setCell (Nat.le_refl _) _
      clear hR hb hTi hosl c0 c1
      go_wp2_with fail
      generalize wr.setCell ⟨w2.heap.size, i, none⟩ (.int .i64 (xo.length : Int)) = w6 at *
      clear r5 fr5 hz5 c1r
      go_loopw [11, 13] (fun z x wy => RhoRel picks xn xo ts.length w2.heap.size i m f w2 z x wy) (fun _ x _ => xo.length - (intOf x).toNat)
      case atStart => exact ⟨0, m, xo.length, Nat.zero_le _, rfl, rfl, by simp [sumH], Nat.le_refl _, .inl ⟨rfl, fun q _ h => absurd h (Nat.not_lt_zero _)⟩, HR6.out, HB6.out⟩
      case round =>
        obtain ⟨k, m1, a, hk, rfl, rfl, hm1, hmb1, hwk, hR, hb⟩ := hrel
        have HM1 := Lib.hid (⟨hm1, hmb1⟩ : _ ∧ _)
        have HWk := Lib.hid hwk
        have HRk := Lib.hid hR
        have HBk := Lib.hid hb
        have c1r := cell_on HC2.out.2 hb
        clear hm1 hmb1 hwk hR
        by_cases hlk : k < xo.length
        · have k0 : (0 : Int) ≤ (k : Int) := by omega
          have k1 : (k : Int) < (xo.length : Int) := by omega
          obtain ⟨bo, oo, rfl, hbo, _, _, _, _, _, _⟩ := HOk.out.1.at' (Below.refl _ _) hlk
          have hcel : ∀ W, Below w2.heap.size w2 W → W.cell? ⟨bo, oo + k * 6, none⟩ = some (.int .i64 xo[k].v.a) ∧ W.cell? ⟨bo, oo + k * 6 + 1, none⟩ = some (.int .i64 xo[k].v.b) ∧ W.cell? ⟨bo, oo + k * 6 + 2, none⟩ = some (.int .i64 xo[k].v.c) ∧ W.cell? ⟨bo, oo + k * 6 + 3, none⟩ = some (.string xo[k].v.p) := fun W hW => by
            obtain ⟨_, _, h2, _, g0, g1, g2, g3, _, _⟩ := HOk.out.1.at' hW hlk
            cases h2
            exact ⟨g0, g1, g2, g3⟩
          have HCl := Lib.hid hcel
          have HNxt := Lib.hid (HWk.out.next hlk)
          have HSum := Lib.hid (sumH_succ (picks := picks) (nm := xn) hlk)
          have HHl := Lib.hid (hits_le picks xn xo[k].v)
          generalize hov : (xo[k]'hlk).v = ov at HCl HNxt HSum HHl
          have HLk := Lib.hid hlk
          clear hcel hov hb
          go_wp2_with fail
          obtain ⟨w7, rfl⟩ : ∃ W, W = wr := ⟨_, rfl⟩
          go_loopw [11, 14] (fun z x wy => RhpRel picks xn ov ts.length w2.heap.size i k a m1 f w2 z x wy) (fun _ x _ => picks.length - (intOf x).toNat)
          case atStart => exact ⟨0, m1, Nat.zero_le _, rfl, rfl, by simp [hitJ], by simpa [hitJ] using HRk.out, HBk.out⟩
          case round =>
            obtain ⟨j, m2, hj, rfl, rfl, hm2, hR, hb⟩ := hrel
            have HM2 := Lib.hid hm2
            have HRj := Lib.hid hR
            have HBj := Lib.hid hb
            clear hm2 hR
            by_cases hlj : j < picks.length
            · have j0 : (0 : Int) ≤ (j : Int) := by omega
              have j1 : (j : Int) < (picks.length : Int) := by omega
              obtain ⟨bp, op, rfl, hbp, hcp⟩ := HX2.out.row hb hlj
              obtain ⟨p0, p1, p2, p3, p4⟩ := hcp j hlj
              obtain ⟨o0, o1, o2, o3⟩ := HCl.out _ hb
              have c0j := cell_on HC2.out.1 hb
              have c1j := cell_on HC2.out.2 hb
              have HSj := Lib.hid (hitJ_succ (nm := xn) (v := ov) hlj)
              generalize (picks[j]'hlj) = x at p0 p1 p2 p3 p4 HSj
              obtain ⟨xp, ⟨va, vb, vc, vp⟩⟩ := x
              obtain ⟨oa, ob, oc, opp⟩ := ov
              simp only at p0 p1 p2 p3 p4 o0 o1 o2 o3
              have HNo : Hid (hitB xn ⟨oa, ob, oc, opp⟩ ⟨xp, ⟨va, vb, vc, vp⟩⟩ = false → RhpRel picks xn ⟨oa, ob, oc, opp⟩ ts.length w2.heap.size i k a m1 f w2 (.int .i64 (m2 : Int)) (.int .i64 ((j + 1 : Nat) : Int)) (wr.drewN 0) ∧ hitJ picks xn ⟨oa, ob, oc, opp⟩ (j + 1) = hitJ picks xn ⟨oa, ob, oc, opp⟩ j) := fun h => by
                have e : hitJ picks xn ⟨oa, ob, oc, opp⟩ (j + 1) = hitJ picks xn ⟨oa, ob, oc, opp⟩ j := by rw [HSj.out, h]; rfl
                exact ⟨⟨j + 1, m2, hlj, rfl, rfl, by rw [e]; exact HM2.out, by rw [e]; exact HRj.out.on (below_drewN (Below.refl _ _) _), below_drewN HBj.out _⟩, e⟩
              clear hcp hb
              by_cases hnm : xp = xn
              case neg =>
                have e9 : (xp.toList == xn.toList) = false := beq_eq_false_iff_ne.2 fun h => hnm (bytes_injP h)
                have hp : ¬ xp.toList = xn.toList := fun h => hnm (bytes_injP h)
                have HE := Lib.hid (HNo.out (by unfold hitB; simp [hnm])).2
                clear hnm
                go_wp2_with fail
                go_quiet (fail)
                go_wp2_with fail
                go_roundw
                case rel => exact ⟨j + 1, m2, hlj, by go_num, rfl, by rw [HE.out]; exact HM2.out, by rw [HE.out]; exact HRj.out.on (below_drewN (Below.refl _ _) _), below_drewN HBj.out _⟩
                case measure => simp [intOf]; omega
              have e9 : (xp.toList == xn.toList) = true := by rw [hnm]; exact beq_self_eq_true _
              have hp : xp.toList = xn.toList := by rw [hnm]
              obtain ⟨r, hr⟩ : ∃ r, V4.same ⟨va, vb, vc, vp⟩ ⟨oa, ob, oc, opp⟩ = r := ⟨_, rfl⟩
              have r1 := fun W => ver_eq va vb vc vp oa ob oc opp r (by rw [← hr]; rfl) W
              have HHb : Hid (hitB xn ⟨oa, ob, oc, opp⟩ ⟨xp, ⟨va, vb, vc, vp⟩⟩ = r) := by show _ = _; unfold hitB; rw [← hr]; simp [hnm]
              clear hr hnm
              cases r
              case false =>
                have HE := Lib.hid (HNo.out HHb.out).2
                go_wp2_with fail
                go_quiet (fail)
                go_wp2_with fail
                go_roundw
                case rel => exact ⟨j + 1, m2, hlj, by go_num, rfl, by rw [HE.out]; exact HM2.out, by rw [HE.out]; exact HRj.out.on (below_drewN (Below.refl _ _) _), below_drewN HBj.out _⟩
                case measure => simp [intOf]; omega
              have hwm : IntKind.i64.wrap ((m2 : Int) + 1) = (m2 : Int) + 1 := by
                have h1 := HM.out.2
                have h2 := HM1.out.2
                have h3 := HM2.out
                have h4 := hitJ_le picks xn ⟨oa, ob, oc, opp⟩ j
                have h5 := HOl.out
                rw [IntKind.wrap_i64]; omega
              have HE : Hid (hitJ picks xn ⟨oa, ob, oc, opp⟩ (j + 1) = hitJ picks xn ⟨oa, ob, oc, opp⟩ j + 1) := by show _ = _; rw [HSj.out, HHb.out]; rfl
              go_wp2_with fail
              go_quiet (fail)
              obtain ⟨w8, hw8⟩ : ∃ W, W = wr.drewN nq := ⟨_, rfl⟩
              have HR8 := Lib.hid (HRj.out.on (below_drewN (Below.refl _ _) nq))
              have HB8 : Hid (Below w2.heap.size w2 (wr.drewN nq)) := below_drewN HBj.out _
              rw [← hw8] at HR8 HB8 ⊢
              have r8 := HR8.out.cell hlt
              have fr8 := HR8.out.free i
              have hz8 := HR8.out.lt
              have HR9 := Lib.hid (HR8.out.set (i := i) k (v := (k : Int)) rfl (f' := fun q => if q = i then k else f q) (fun t _ => by
                by_cases h : t = i
                · rw [if_pos h, if_pos h]
                · rw [if_neg h, if_neg h, if_neg h]))
              have HB9 : Hid (Below w2.heap.size w2 (w8.setCell ⟨w2.heap.size, i, none⟩ (.int .i64 (k : Int)))) := HB8.out.setCell (Nat.le_refl _) _
              clear hw8 p0 p1 p2 p3 p4 o0 o1 o2 o3 c0j c1j
              go_wp2_with fail
              go_roundw
              case rel => exact ⟨j + 1, m2 + 1, hlj, by go_num, by go_num, by rw [HE.out, HM2.out]; omega, by rw [HE.out]; simpa using HR9.out, HB9.out⟩
              case measure => simp [intOf]; omega
            · have q5 : decide (j < picks.length) = false := decide_eq_false hlj
              have he : hitJ picks xn ov j = hitsN picks xn ov := hitJ_all (by omega)
              have HE := Lib.hid he
              have HLk2 := HLk.out
              clear hlj he hb
              go_wp2_with fail
              go_roundw
              case rel =>
                refine ⟨k + 1, m2, _, HLk2, by go_num, rfl, ?_, ?_, HNxt.out, ?_, HBj.out⟩
                · rw [HSum.out, HM2.out, HM1.out.1, HE.out]; omega
                · have h1 := HM1.out.2
                  have h2 := HM2.out
                  rw [HE.out] at h2
                  have h3 := HHl.out
                  omega
                · have h := HRj.out; rw [HE.out] at h; exact h
              case measure => simp [intOf]; omega
        · have q5 : decide (k < xo.length) = false := decide_eq_false hlk
          have hway : WayR picks (ppL ts)[i] a := by rw [HTi.out]; exact WayK.done (p := ⟨xn, xo, xa', xc'⟩) HWk.out (by simp only; omega)
          have HWay := Lib.hid hway
          obtain ⟨mw, hmw⟩ : ∃ m, xo.length + (if askedB needs xn = true then 0 else 1) = m := ⟨_, rfl⟩
          have HWm : Hid ((ppL ts)[i].os.length + (if askN needs (ppL ts)[i].nm = true then 0 else 1) = mw) := by
            show _ = _
            rw [HTi.out, ← hmw]
            show (xo.map DOff.po).length + _ = _
            rw [List.length_map]; rfl
          have HWy : Hid (∀ W, Below w2.heap.size w2 W → Calls Tryz.prog 66 #[.agg #[.string xn, .slice xa' xo.length xc'], nv] W fun e w' => e = .returned (.int .i64 (mw : Int)) ∧ Below W.heap.size W w') := fun W hW =>
            rways_as xn xa' xo.length xc' nv needs mw W (HN.out.below hW (Nat.le_refl _)) hmw.symm HOl.out
          have hke : xo.take k = xo := List.take_of_length_le (by omega)
          have HKe := Lib.hid hke
          have hkl6 : k ≤ 1000000 := by have := HOl.out; omega
          have HK6 := Lib.hid hkl6
          have hd := (Below.refl wr.heap.size wr).drew
          have ra := HRk.out.cell hlt
          rw [if_pos rfl] at ra
          have hst : RwS w2.heap.size i a bx (ox + i * 2) (.string xn) (.slice xa' xo.length xc') w2 wr.drew := ⟨cell_on ra hd, cell_on (cell_on HC2.out.1 hb) hd, cell_on c1r hd, below_then hb hd⟩
          have HD := Lib.hid hd
          clear hlk hway hmw hke hkl6 hb ra hd
          go_wp2_with fail
          refine wp_region_held_drew (S := (fun W => RwS w2.heap.size i a bx (ox + i * 2) (.string xn) (.slice xa' xo.length xc') w2 W)) (by kernel_rfl) (hst) (fun hHeld => ?_)
          refine wpAnyH_take (i := 0) (v := ?_) rfl (by kernel_rfl) (by kernel_rfl) (by kernel_rfl) (fun _ _ _ h => h) (Or.inl ⟨by kernel_rfl, ?_⟩) hHeld ?_
          rotate_left
          · (rintro W ⟨e0, e1, e2, _⟩; go_simp; (try with_reducible rfl))
          (try simp only [Act.put, List.getElem_toArray, List.getElem_cons_zero, List.setIfInBounds_toArray, List.set_cons_succ, List.set_cons_zero])
          refine wpAnyH_take (i := 1) (v := ?_) rfl (by kernel_rfl) (by kernel_rfl) (by kernel_rfl) (fun _ _ _ h => h) (Or.inl ⟨by kernel_rfl, ?_⟩) hHeld ?_
          rotate_left
          · (rintro W ⟨e0, e1, e2, _⟩; go_simp; (try with_reducible rfl))
          (try simp only [Act.put, List.getElem_toArray, List.getElem_cons_succ, List.getElem_cons_zero, List.setIfInBounds_toArray, List.set_cons_succ, List.set_cons_zero])
          refine wpAnyH_take (i := 2) (v := ?_) rfl (by kernel_rfl) (by kernel_rfl) (by kernel_rfl) (fun _ _ _ h => h) (Or.inl ⟨by kernel_rfl, ?_⟩) hHeld ?_
          rotate_left
          · (rintro W ⟨e0, e1, e2, _⟩; go_simp; (try with_reducible rfl))
          (try simp only [Act.put, List.getElem_toArray, List.getElem_cons_succ, List.getElem_cons_zero, List.setIfInBounds_toArray, List.set_cons_succ, List.set_cons_zero])
          refine wpAnyH_take (i := 3) (v := ?_) rfl (by kernel_rfl) (by kernel_rfl) (by kernel_rfl) (fun _ _ _ h => h) (Or.inl ⟨by kernel_rfl, ?_⟩) hHeld ?_
          rotate_left
          · (rintro W ⟨e0, e1, e2, _⟩; go_simp; (try with_reducible rfl))
          (try simp only [Act.put, List.getElem_toArray, List.getElem_cons_succ, List.getElem_cons_zero, List.setIfInBounds_toArray, List.set_cons_succ, List.set_cons_zero])
          refine wpAnyH_take (i := 4) (v := ?_) rfl (by kernel_rfl) (by kernel_rfl) (by kernel_rfl) (fun _ _ _ h => h) (Or.inl ⟨by kernel_rfl, ?_⟩) hHeld ?_
          rotate_left
          · (rintro W ⟨e0, e1, e2, _⟩; go_simp; (try with_reducible rfl))
          (try simp only [Act.put, List.getElem_toArray, List.getElem_cons_succ, List.getElem_cons_zero, List.setIfInBounds_toArray, List.set_cons_succ, List.set_cons_zero])
          refine wpAnyH_take (i := 5) (v := ?_) rfl (by kernel_rfl) (by kernel_rfl) (by kernel_rfl) (fun _ _ _ h => h) (Or.inl ⟨by kernel_rfl, ?_⟩) hHeld ?_
          rotate_left
          · (rintro W ⟨e0, e1, e2, _⟩; go_simp; (try with_reducible rfl))
          (try simp only [Act.put, List.getElem_toArray, List.getElem_cons_succ, List.getElem_cons_zero, List.setIfInBounds_toArray, List.set_cons_succ, List.set_cons_zero])
          refine wpAnyH_take (i := 6) (v := ?_) rfl (by kernel_rfl) (by kernel_rfl) (by kernel_rfl) (fun _ _ _ h => h) (Or.inl ⟨by kernel_rfl, ?_⟩) hHeld ?_
          rotate_left
          · (rintro W ⟨e0, e1, e2, _⟩; go_simp; (try with_reducible rfl))
          (try simp only [Act.put, List.getElem_toArray, List.getElem_cons_succ, List.getElem_cons_zero, List.setIfInBounds_toArray, List.set_cons_succ, List.set_cons_zero])
          refine wpAnyH_take (i := 7) (v := ?_) rfl (by kernel_rfl) (by kernel_rfl) (by kernel_rfl) (fun _ _ _ h => h) (Or.inl ⟨by kernel_rfl, ?_⟩) hHeld ?_
          rotate_left
          · (rintro W ⟨e0, e1, e2, _⟩; go_simp; (try with_reducible rfl))
          (try simp only [Act.put, List.getElem_toArray, List.getElem_cons_succ, List.getElem_cons_zero, List.setIfInBounds_toArray, List.set_cons_succ, List.set_cons_zero])
          refine wpAnyH_take (i := 8) (v := ?_) rfl (by kernel_rfl) (by kernel_rfl) (by kernel_rfl) (fun _ _ _ h => h) (Or.inl ⟨by kernel_rfl, ?_⟩) hHeld ?_
          rotate_left
          · (rintro W ⟨e0, e1, e2, _⟩; go_simp; (try with_reducible rfl))
          (try simp only [Act.put, List.getElem_toArray, List.getElem_cons_succ, List.getElem_cons_zero, List.setIfInBounds_toArray, List.set_cons_succ, List.set_cons_zero])
          refine wpAnyH_ready (rs := [9]) (by kernel_rfl) (by simp) ?_
          refine AllReadyH.cons rfl (fun K hK => ?_) AllReadyH.nil
          go_simp
          refine (HWy.out _ hHeld.2.2.2).mono ?_
          rintro e w12 ⟨rfl, hk12⟩
          refine hK.out _ _ (hHeld.on hk12) (fun hHeld => ?_)
          clear hK K
          (try simp only [Act.put, List.getElem_toArray, List.getElem_cons_succ, List.getElem_cons_zero, List.setIfInBounds_toArray, List.set_cons_succ, List.set_cons_zero])
          refine wpAnyH_take (i := 10) (v := ?_) rfl (by kernel_rfl) (by kernel_rfl) (by kernel_rfl) (fun _ _ _ h => h) (Or.inl ⟨by kernel_rfl, ?_⟩) hHeld ?_
          rotate_left
          · (rintro W ⟨e0, e1, e2, _⟩; go_simp; (try with_reducible rfl))
          (try simp only [Act.put, List.getElem_toArray, List.getElem_cons_succ, List.getElem_cons_zero, List.setIfInBounds_toArray, List.set_cons_succ, List.set_cons_zero])
          refine wpAnyH_done (by kernel_rfl) ?_ _
          have hbE : Below wr.heap.size wr w12 := HD.out.trans (hk12.mono HD.out.size)
          have HR7 := Lib.hid (HRk.out.on hbE)
          have HB7 := Lib.hid (below_then HBk.out hbE)
          clear hst hHeld hbE hk12
          by_cases ham : a < mw
          · have q6 : decide (mw ≤ a) = false := decide_eq_false (by omega)
            have q7 : decide ((mw : Int) ≤ (a : Int)) = false := decide_eq_false (by omega)
            have q8 : ¬ (mw : Int) ≤ (a : Int) := by omega
            have HAm := Lib.hid ham
            clear ham
            go_wp2_with fail
            go_roundw
            case rel =>
              refine ⟨i + 1, m1, _, hlt, by go_num, rfl, ?_, ?_, HR7.out, fun j hj hji => ?_, HB7.out⟩
              · have h := HM1.out.1
                rw [HKe.out] at h
                rw [metsTo_succ hiT, HTi.out, metN_sum, h, HM.out.1]
              · have h1 := HM1.out.2
                have h2 := HM.out.2
                have h3 := HK6.out
                omega
              · by_cases h : j = i
                · subst h
                  rw [if_pos rfl]
                  exact ⟨HWay.out, by rw [HWm.out]; exact HAm.out⟩
                · rw [if_neg h]; exact HF.out j hj (by omega)
            case measure => simp [intOf]; omega
          · have q6 : decide (mw ≤ a) = true := decide_eq_true (by omega)
            have q7 : decide ((mw : Int) ≤ (a : Int)) = true := decide_eq_true (by omega)
            have q8 : (mw : Int) ≤ (a : Int) := by omega
            have HFl : Hid (HoldPost lock needs ps picks w (.returned (.bool false)) w12) := HPost.out false w12 ⟨(fun h => by cases h), fun h => absurd h (rh_way HTW.out HTV.out hiT HWay.out (by rw [HWm.out]; exact ham))⟩ HB7.out
            clear ham
            go_wp2_with fail
            go_ret
            exact HFl.out
    · have i1 : decide (i < ts.length) = false := decide_eq_false hlt
      have hin : i = ts.length := by omega
      have HMe : Hid (m = metsTo (ppL ts) picks ts.length) := by show _ = _; rw [← hin]; exact HM.out.1
      have HFe : Hid (∀ j (h : j < (ppL ts).length), WayR picks (ppL ts)[j] (f j) ∧ f j < (ppL ts)[j].os.length + (if askN needs (ppL ts)[j].nm = true then 0 else 1)) := fun j hj => HF.out j hj (by rw [ppL_len] at hj; omega)
      clear hlt hin hb hR
      go_wp2_with fail
      obtain ⟨w5, rfl⟩ : ∃ W, W = wr := ⟨_, rfl⟩
      go_loopw [15] (fun x wy => RhiRel picks w5 x wy) (fun x _ => picks.length - (intOf x).toNat)
      case atStart => exact ⟨0, Nat.zero_le _, rfl, fun x _ y _ h => absurd h (Nat.not_lt_zero _), Below.refl _ _⟩
      case round =>
        obtain ⟨x, hxl, rfl, hap, hb⟩ := hrel
        have HAp := Lib.hid hap
        have HBx := Lib.hid hb
        clear hap
        by_cases hlx : x < picks.length
        · have x0 : (0 : Int) ≤ (x : Int) := by omega
          have x1 : (x : Int) < (picks.length : Int) := by omega
          clear hb
          go_wp2_with fail
          go_loopw [16] (fun y wz => RhkRel picks x hlx w5 y wz) (fun y _ => x - (intOf y).toNat)
          case atStart => exact ⟨0, Nat.zero_le _, rfl, fun y _ h => absurd h (Nat.not_lt_zero _), HBx.out⟩
          case round =>
            obtain ⟨y, hyl, rfl, hap2, hb⟩ := hrel
            have HAp2 := Lib.hid hap2
            have HBy := Lib.hid hb
            clear hap2
            by_cases hly : y < x
            · have y0 : (0 : Int) ≤ (y : Int) := by omega
              have y1 : (y : Int) < (picks.length : Int) := by omega
              have y2 : (y : Int) < (x : Int) := by omega
              have hyp : y < picks.length := by omega
              obtain ⟨bp, op, rfl, hbp, hcp⟩ := HX2.out.row (below_then HB.out hb) hlx
              have p0 := (hcp x hlx).1
              have u0 := (hcp y hyp).1
              have HNm : Hid (picks[x].name = picks[y].name → ¬ HoldsIs (ppL ts) (askN needs) picks) := fun h => rh_names HTW.out HTV.out hlx hly h
              have HNe : Hid (picks[x].name ≠ picks[y].name → ∀ q (hq : q < x), q < y + 1 → picks[x].name ≠ picks[q].name) := by
                show _ → ∀ _, _
                intro h q hq hqy
                rcases Nat.lt_succ_iff_lt_or_eq.1 hqy with h' | rfl
                · exact HAp2.out q hq h'
                · exact h
              obtain ⟨nx, hnx⟩ : ∃ s, picks[x].name = s := ⟨_, rfl⟩
              obtain ⟨ny, hny⟩ : ∃ s, picks[y].name = s := ⟨_, rfl⟩
              rw [hnx] at p0
              rw [hny] at u0
              have HNx := Lib.hid (⟨hnx, hny⟩ : _ ∧ _)
              clear hcp hnx hny hb
              by_cases he : nx = ny
              · have e9 : (nx.toList == ny.toList) = true := by rw [he]; exact beq_self_eq_true _
                have hp : nx.toList = ny.toList := by rw [he]
                have HFl : Hid (∀ n, HoldPost lock needs ps picks w (.returned (.bool false)) (wr.drewN n)) := fun n => HPost.out false _ ⟨(fun h => by cases h), fun h => absurd h (HNm.out (by rw [HNx.out.1, HNx.out.2, he]))⟩ (below_drewN (below_then HB.out HBy.out) _)
                clear he
                go_wp2_with fail
                go_quiet (fail)
                go_wp2_with fail
                go_ret
                exact HFl.out _
              · have e9 : (nx.toList == ny.toList) = false := beq_eq_false_iff_ne.2 fun h => he (bytes_injP h)
                have hp : ¬ nx.toList = ny.toList := fun h => he (bytes_injP h)
                have HNl := Lib.hid (HNe.out (by rw [HNx.out.1, HNx.out.2]; exact he))
                have HLy := Lib.hid hly
                clear he
                go_wp2_with fail
                go_quiet (fail)
                go_wp2_with fail
                go_roundw
                case rel => exact ⟨y + 1, HLy.out, by go_num, HNl.out, below_drewN HBy.out _⟩
                case measure => have := HLy.out; simp [intOf]; omega
            · have q5 : decide (y < x) = false := decide_eq_false hly
              have HNx : Hid (∀ u (hu : u < picks.length) v (hv : v < u), u < x + 1 → picks[u].name ≠ picks[v].name) := by
                show ∀ _, _
                intro u hu v hv hux
                rcases Nat.lt_succ_iff_lt_or_eq.1 hux with h | rfl
                · exact HAp.out u hu v hv h
                · exact HAp2.out v hv (by omega)
              clear hly hb
              go_wp2_with fail
              go_roundw
              case rel => exact ⟨x + 1, hlx, by go_num, HNx.out, HBy.out⟩
              case measure => simp [intOf]; omega
        · have q5 : decide (x < picks.length) = false := decide_eq_false hlx
          have hpw : picks.Pairwise fun a b => a.name ≠ b.name := List.pairwise_iff_getElem.2 fun u v hu hv huv e => HAp.out v hv u huv (by omega) e.symm
          have hend := rh_end HTW.out HTV.out HFe.out hpw
          rw [ppL_len] at hend
          have HEnd := Lib.hid hend
          have HBT := Lib.hid (below_then HB.out hb)
          have HWr := Lib.hid ((HR.out.on hb).row' (by unfold maxLen; omega))
          have hwl : ((List.range ts.length).map f).length = ts.length := by simp
          have HCl := Lib.hid (rclosed_as (.slice ta ts.length tc) _ ts _ wr (HT.out.below HBT.out (Nat.le_refl _)) HWr.out hwl HTW.out HBd.out)
          have HWl := Lib.hid hwl
          clear hlx hpw hend hwl hb
          by_cases hml : m = picks.length
          case neg =>
            have q6 : ((m : Int) == (picks.length : Int)) = false := by rw [beq_eq_false_iff_ne]; omega
            have HFl : Hid (HoldPost lock needs ps picks w (.returned (.bool false)) wr) := HPost.out false wr ⟨(fun h => by cases h), fun h => absurd ((HEnd.out.2 h).1) (by rw [← HMe.out]; exact hml)⟩ HBT.out
            clear hml
            go_wp2_with fail
            go_ret
            exact HFl.out
          have q6 : ((m : Int) == (picks.length : Int)) = true := by rw [beq_iff_eq]; omega
          have HMl : Hid (metsTo (ppL ts) picks ts.length = picks.length) := by show _ = _; rw [← HMe.out]; exact hml
          clear hml
          go_wp2_with fail
          refine HCl.out.mono ?_
          rintro e w6 ⟨⟨c, rfl, hc⟩, hb6⟩
          have HC6 := Lib.hid hc
          have HB6 := Lib.hid (below_then HBT.out hb6)
          clear hc
          cases c
          · have HFl : Hid (HoldPost lock needs ps picks w (.returned (.bool false)) w6) := HPost.out false w6 ⟨(fun h => by cases h), fun h => by
              have := HC6.out.2 ((fits_closed HTW.out).1 (HEnd.out.2 h).2.1); cases this⟩ HB6.out
            clear hb6
            go_wp2_with fail
            go_ret
            exact HFl.out
          · have HCl2 := Lib.hid (HC6.out.1 rfl)
            have HGr := Lib.hid (rgrounded_as (.slice ta ts.length tc) _ nv ts _ needs w6 (HT.out.below HB6.out (Nat.le_refl _)) (HWr.out.below hb6 (Nat.le_refl _)) (HN.out.below HB6.out (Nat.le_refl _)) HWl.out HBd.out)
            clear hb6
            go_wp2_with fail
            refine HGr.out.mono ?_
            rintro e w7 ⟨⟨d, rfl, hd⟩, hb7⟩
            have HFl : Hid (HoldPost lock needs ps picks w (.returned (.bool d)) w7) := HPost.out d w7 (hd.trans ⟨fun h => HEnd.out.1 ⟨HMl.out, (fits_closed HTW.out).2 HCl2.out, h⟩, fun h => (HEnd.out.2 h).2.2⟩) (below_then HB6.out hb7)
            clear hd hb7
            go_wp2_with fail
            go_ret
            exact HFl.out
end Go.Proofs.YtllkiedikjgkbaaGreatDoor
