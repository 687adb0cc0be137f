/- Solve's law of what is sound: is a pick an offer that may be: a walk. -/
import Derived.Test.YtllkiedikjgkbaaGreatDoorSolLawF
namespace Go
open Go.RowKit
def GdS (g : Nat) (pv lv : Value) (x : Pik) (W : World) : Prop :=
  (W.cell? ⟨g, 0, none⟩ = some pv ∧ W.cell? ⟨g, 1, none⟩ = some lv) ∧ (W.cell? ⟨g + 1, 0, none⟩ = some (.string x.name) ∧ W.cell? ⟨g + 1, 1, none⟩ = some (.int .i64 x.v.a) ∧ W.cell? ⟨g + 1, 2, none⟩ = some (.int .i64 x.v.b) ∧ W.cell? ⟨g + 1, 3, none⟩ = some (.int .i64 x.v.c) ∧ W.cell? ⟨g + 1, 4, none⟩ = some (.string x.v.p))
theorem GdS.on {g : Nat} {pv lv : Value} {x : Pik} {W W' : World} (h : GdS g pv lv x W) (hb : Below W.heap.size W W') : GdS g pv lv x W' := by
  obtain ⟨⟨a0, a1⟩, b0, b1, b2, b3, b4⟩ := h
  exact ⟨⟨cell_on a0 hb, cell_on a1 hb⟩, cell_on b0 hb, cell_on b1 hb, cell_on b2 hb, cell_on b3 hb, cell_on b4 hb⟩
def gdOk (q : Bool) (v : V4) (o : DOff) : Prop := o.v = v ∧ (!o.y || q) = true
theorem find_hit {ps : List DPack} {nm : ByteArray} {k : Nat} (hk : k < ps.length) (hn : ps[k].name = nm) (h : ∀ j (hj : j < ps.length), j < k → ps[j].name ≠ nm) : findP ps nm = ps[k] := by
  unfold findP
  have : ps.find? (fun p => decide (p.name = nm)) = some ps[k] := by
    rw [List.find?_eq_some_iff_getElem]
    exact ⟨by simpa using hn, k, hk, rfl, fun j hj => by simpa using h j (by omega) hj⟩
  rw [this]; rfl
theorem find_miss {ps : List DPack} {nm : ByteArray} (h : ∀ j (hj : j < ps.length), ps[j].name ≠ nm) : (findP ps nm).os = [] := by
  unfold findP
  have : ps.find? (fun p => decide (p.name = nm)) = none := by
    rw [List.find?_eq_none]
    intro x hx
    obtain ⟨j, hj, rfl⟩ := List.getElem_of_mem hx
    simpa using h j hj
  rw [this]; rfl
end Go
namespace Go.Proofs.YtllkiedikjgkbaaGreatDoor
open Go.RowKit Go.Maps
def GkRel (lock : List Pik) (pv lv : Value) (x : Pik) (w : World) (u i : Value) (wr : World) : Prop :=
  ∃ (k : Nat) (q : Bool), k ≤ lock.length ∧ i = .int .i64 (k : Int) ∧ u = .bool q ∧ (lock.take k).any (lockB x.name x.v) = q ∧ GdS w.heap.size pv lv x wr ∧ Below w.heap.size w wr
def GpRel (ps : List DPack) (pv lv : Value) (x : Pik) (w : World) (i : Value) (wr : World) : Prop :=
  ∃ k : Nat, k ≤ ps.length ∧ i = .int .i64 (k : Int) ∧ (∀ j (hj : j < ps.length), j < k → ps[j].name ≠ x.name) ∧ GdS w.heap.size pv lv x wr ∧ Below w.heap.size w wr
def GoRel (os : List DOff) (q : Bool) (pv lv : Value) (x : Pik) (w : World) (i : Value) (wr : World) : Prop :=
  ∃ m : Nat, m ≤ os.length ∧ i = .int .i64 (m : Int) ∧ (∀ j (hj : j < os.length), j < m → ¬ gdOk q x.v os[j]) ∧ GdS w.heap.size pv lv x wr ∧ Below w.heap.size w wr
set_option maxRecDepth 100000 in
set_option maxHeartbeats 4000000 in
theorem good_as (pk lk nv : Value) (ps : List DPack) (lock : List Pik) (x : Pik) (w : World) (hp : Packs w pk ps) (hl : Piks w lk lock)
    (hg : ∃ o ∈ (findP ps x.name).os, o.v = x.v ∧ (!o.y || lockedB lock x.name x.v) = true) :
    Calls Tryz.prog 31 #[.agg #[pk, lk, nv], .agg #[.string x.name, .int .i64 x.v.a, .int .i64 x.v.b, .int .i64 x.v.c, .string x.v.p]] w fun e w' => e = .returned (.bool true) ∧ Below w.heap.size w w' := by
  obtain ⟨hmx, a0, cap0, rfl⟩ := hp.len
  obtain ⟨a1, cap1, rfl⟩ := hl.len
  have hmx2 : ps.length ≤ 9223372036854775807 := Nat.le_trans hmx (by decide)
  have hmx3 : lock.length ≤ 9223372036854775807 := Nat.le_trans hl.cases.1 (by decide)
  have HP := Lib.hid hp
  have HL := Lib.hid hl
  have HG := Lib.hid hg
  have hx1 := Below.refl (w.heap.size + 1) (w.alloc (.cells #[.slice a0 ps.length cap0, .slice a1 lock.length cap1, nv] 26))
  have hx2 := hx1.alloc (by simp) (.cells #[.string x.name, .int .i64 x.v.a, .int .i64 x.v.b, .int .i64 x.v.c, .string x.v.p] 45)
  have hy := Below.refl ((w.alloc (.cells #[.slice a0 ps.length cap0, .slice a1 lock.length cap1, nv] 26)).heap.size + 1) ((w.alloc (.cells #[.slice a0 ps.length cap0, .slice a1 lock.length cap1, nv] 26)).alloc (.cells #[.string x.name, .int .i64 x.v.a, .int .i64 x.v.b, .int .i64 x.v.c, .string x.v.p] 45))
  have hsz : (w.alloc (.cells #[.slice a0 ps.length cap0, .slice a1 lock.length cap1, nv] 26)).heap.size = w.heap.size + 1 := by simp
  have HS : Hid (GdS w.heap.size (.slice a0 ps.length cap0) (.slice a1 lock.length cap1) x ((w.alloc (.cells #[.slice a0 ps.length cap0, .slice a1 lock.length cap1, nv] 26)).alloc (.cells #[.string x.name, .int .i64 x.v.a, .int .i64 x.v.b, .int .i64 x.v.c, .string x.v.p] 45))) := by
    have d := fun j => box_cells hy j
    rw [hsz] at d
    exact ⟨⟨box_cells hx2 0, box_cells hx2 1⟩, d 0, d 1, d 2, d 3, d 4⟩
  have HW := Lib.hid (below_first hx2)
  clear hp hl hg hmx hx1 hx2 hy hsz
  go_enter Tryz.func31, Tryz.ntmps31
  go_wp2_with fail
  go_loopw [5, 6] (fun u i wr => GkRel lock (.slice a0 ps.length cap0) (.slice a1 lock.length cap1) x w u i wr) (fun _ i _ => lock.length - (intOf i).toNat)
  case atStart => exact ⟨0, false, Nat.zero_le _, rfl, rfl, rfl, HS.out, HW.out⟩
  case round =>
    obtain ⟨k, q, hk, rfl, rfl, hq, hS, hb⟩ := hrel
    have HQ := Lib.hid hq
    have HSr := Lib.hid hS
    have HB := Lib.hid hb
    obtain ⟨⟨c0, c1⟩, d0, d1, d2, d3, d4⟩ := hS
    have hz0 := cell_lt c0
    have hz1 := cell_lt d0
    clear hq
    by_cases hlt : k < lock.length
    · have i0 : (0 : Int) ≤ (k : Int) := by omega
      have i1 : (k : Int) < (lock.length : Int) := by omega
      have HT := Lib.hid (List.take_succ_eq_append_getElem hlt)
      cases q
      case true =>
        go_wp2_with fail
        go_quiet (fail)
        go_wp2_with fail
        go_roundw
        case rel => exact ⟨k + 1, true, hlt, by go_num, rfl, by rw [HT.out, List.any_append, HQ.out]; rfl, HSr.out.on (below_drewN (Below.refl _ _) _), below_drewN HB.out _⟩
        case measure => simp [intOf]; omega
      obtain ⟨bx, ox, rfl, hbx, hcp⟩ := HL.out.row hb hlt
      obtain ⟨e0, e1, e2, e3, e4⟩ := hcp k hlt
      obtain ⟨⟨o, ⟨a, b, c, p⟩⟩, hxe⟩ : ∃ x, lock[k] = x := ⟨_, rfl⟩
      rw [hxe] at e0 e1 e2 e3 e4 HT
      obtain ⟨r, hr⟩ : ∃ r, lockB x.name x.v ⟨o, ⟨a, b, c, p⟩⟩ = r := ⟨_, rfl⟩
      have r1 := fun W => pick_eq o a b c p x.name x.v.a x.v.b x.v.c x.v.p r (by rw [← hr]; rfl) W
      have HR := Lib.hid hr
      clear hxe hcp hr hb
      go_wp2_with fail
      go_quiet (fail)
      go_wp2_with fail
      go_roundw
      case rel => exact ⟨k + 1, r, hlt, by go_num, rfl, by rw [HT.out, List.any_append, HQ.out]; simp [HR.out], HSr.out.on (below_drewN (Below.refl _ _) _), below_drewN HB.out _⟩
      case measure => simp [intOf]; omega
    · have q5 : decide (k < lock.length) = false := decide_eq_false hlt
      have HK : Hid (lockedB lock x.name x.v = q) := by
        have := HQ.out
        rw [List.take_of_length_le (by omega)] at this
        exact this
      clear hlt hb hz0 hz1
      go_wp2_with fail
      obtain ⟨w1, rfl⟩ : ∃ W, W = wr := ⟨_, rfl⟩
      go_loopw [7] (fun i wy => GpRel ps (.slice a0 ps.length cap0) (.slice a1 lock.length cap1) x w i wy) (fun i _ => ps.length - (intOf i).toNat)
      case atStart => exact ⟨0, Nat.zero_le _, rfl, fun j _ h => absurd h (Nat.not_lt_zero _), HSr.out, HB.out⟩
      case round =>
        obtain ⟨n, hn, rfl, hall, hS, hb⟩ := hrel
        have HA := Lib.hid hall
        have HS2 := Lib.hid hS
        have HB2 := Lib.hid hb
        clear c0 c1 d0 d1 d2 d3 d4 hall
        obtain ⟨⟨c0, c1⟩, d0, d1, d2, d3, d4⟩ := hS
        have hz0 := cell_lt c0
        have hz1 := cell_lt d0
        by_cases hlt : n < ps.length
        · have i0 : (0 : Int) ≤ (n : Int) := by omega
          have i1 : (n : Int) < (ps.length : Int) := by omega
          obtain ⟨bx, ox, rfl, hbx, e0, e1⟩ := HP.out.at' hb hlt
          have HOk := Lib.hid (HP.out.2 _ (List.getElem_mem hlt)).1
          have HHit : Hid (ps[n].name = x.name → findP ps x.name = ps[n]) := fun h => find_hit hlt h HA.out
          have HLt := Lib.hid hlt
          generalize hxe : ps[n]'hlt = p at e0 e1 HOk HHit
          obtain ⟨xn, xo, xa, xc⟩ := p
          have HXe := Lib.hid hxe
          simp only [DPack.ov] at e0 e1 HOk HHit
          clear hxe
          by_cases hnm : xn = x.name
          case neg =>
            have e9 : (xn.toList == x.name.toList) = false := beq_eq_false_iff_ne.2 fun h => hnm (bytes_injP h)
            have hp : ¬ xn.toList = x.name.toList := fun h => hnm (bytes_injP h)
            have HNe : Hid (∀ j (hj : j < ps.length), j < n + 1 → ps[j].name ≠ x.name) := by
              show ∀ _, _
              intro j hj hjn
              rcases Nat.lt_succ_iff_lt_or_eq.1 hjn with h | rfl
              · exact HA.out j hj h
              · rw [HXe.out]; exact hnm
            clear hb hnm
            go_wp2_with fail
            go_quiet (fail)
            go_wp2_with fail
            go_roundw
            case rel => exact ⟨n + 1, hlt, by go_num, HNe.out, HS2.out.on (below_drewN (Below.refl _ _) _), below_drewN HB2.out _⟩
            case measure => simp [intOf]; omega
          have HFp := Lib.hid (HHit.out hnm)
          have e9 : (xn.toList == x.name.toList) = true := by rw [hnm]; exact beq_self_eq_true _
          have hp : xn.toList = x.name.toList := by rw [hnm]
          have HGg : Hid (∃ o ∈ xo, gdOk q x.v o) := by
            show ∃ _, _
            obtain ⟨o, h1, h2, h3⟩ := HG.out
            rw [HFp.out] at h1
            rw [HK.out] at h3
            exact ⟨o, h1, h2, h3⟩
          clear hb hnm HHit HXe
          have hox : xo.length ≤ 9223372036854775807 := by have := HOk.out.1.len.1; exact Nat.le_trans this (by decide)
          have HN := Lib.hid (⟨hlt, i0, i1⟩ : _ ∧ _ ∧ _)
          clear i0 i1
          go_wp2_with fail
          go_quiet (fail)
          go_wp2_with fail
          obtain ⟨w2, hw2⟩ : ∃ W, W = wr.drewN nq := ⟨_, rfl⟩
          have HS3 : Hid (GdS w.heap.size (.slice (some ⟨bx, ox, none⟩) ps.length cap0) (.slice a1 lock.length cap1) x w2) := by rw [hw2]; exact HS2.out.on (below_drewN (Below.refl _ _) _)
          have HB3 : Hid (Below w.heap.size w w2) := by rw [hw2]; exact below_drewN HB2.out _
          have HPk : Hid (w2.cell? ⟨bx, ox + n * 2 + 1, none⟩ = some (.slice xa xo.length xc)) := by rw [hw2]; exact cell_on e1 (below_drewN (Below.refl _ _) _)
          rw [← hw2]
          clear hw2 e0 e1 c0 c1 d0 d1 d2 d3 d4 e9 hp hlt
          go_loopw [8] (fun i wy => GoRel xo q (.slice (some ⟨bx, ox, none⟩) ps.length cap0) (.slice a1 lock.length cap1) x w i wy ∧ Below w2.heap.size w2 wy) (fun i _ => xo.length - (intOf i).toNat)
          case atStart => exact ⟨⟨0, Nat.zero_le _, rfl, fun j _ h => absurd h (Nat.not_lt_zero _), HS3.out, HB3.out⟩, Below.refl _ _⟩
          case round =>
            obtain ⟨⟨m, hm, rfl, hall, hS, hb⟩, hb2⟩ := hrel
            have HA2 := Lib.hid hall
            have HS4 := Lib.hid hS
            have HB4 := Lib.hid hb
            have HB5 := Lib.hid hb2
            obtain ⟨hlt, i0, i1⟩ := HN.out
            have e1 := cell_on HPk.out hb2
            obtain ⟨⟨c0, c1⟩, d0, d1, d2, d3, d4⟩ := hS
            have hz0 := cell_lt c0
            have hz1 := cell_lt d0
            clear hall hb2
            by_cases hlm : m < xo.length
            · have j0 : (0 : Int) ≤ (m : Int) := by omega
              have j1 : (m : Int) < (xo.length : Int) := by omega
              obtain ⟨bo, oo, rfl, hbo, f0, f1, f2, f3, f4, f5⟩ := HOk.out.1.at' hb hlm
              generalize hoe : xo[m]'hlm = p at f0 f1 f2 f3 f4 f5
              obtain ⟨⟨va, vb, vc, vp⟩, oy, ons, ona, onc⟩ := p
              have HOe := Lib.hid hoe
              simp only [DOff.nv] at f0 f1 f2 f3 f4 f5
              clear hoe
              obtain ⟨r, hr⟩ : ∃ r, decide (va = x.v.a ∧ vb = x.v.b ∧ vc = x.v.c ∧ vp = x.v.p) = r := ⟨_, rfl⟩
              have r1 := fun W => ver_eq va vb vc vp x.v.a x.v.b x.v.c x.v.p r hr.symm W
              have hal := (Below.refl wr.heap.size wr).alloc (Nat.le_refl _) (.cells #[.int .i64 va, .int .i64 vb, .int .i64 vc, .string vp, .bool oy, .slice ona ons.length onc] 39)
              have HBx := Lib.hid (below_then HB4.out hal)
              have HB6 := Lib.hid (below_then HB5.out hal)
              have HS5 := Lib.hid (HS4.out.on hal)
              have HNx : Hid (¬ gdOk q x.v xo[m] → ∀ j (hj : j < xo.length), j < m + 1 → ¬ gdOk q x.v xo[j]) := by
                show _ → ∀ _, _
                intro h0 j hj hjm
                rcases Nat.lt_succ_iff_lt_or_eq.1 hjm with h | rfl
                · exact HA2.out j hj h
                · exact h0
              rw [HOe.out] at HNx
              have HR := Lib.hid hr
              clear hr hb hal
              cases r
              case false =>
                have HNo : Hid (¬ gdOk q x.v ⟨⟨va, vb, vc, vp⟩, oy, ons, ona, onc⟩) := fun h => by
                  have h1 := of_decide_eq_false HR.out
                  have h2 := h.1
                  simp only at h2
                  exact h1 (by rw [← h2]; exact ⟨rfl, rfl, rfl, rfl⟩)
                go_wp2_with fail
                go_roundw
                case rel => exact ⟨⟨m + 1, hlm, by go_num, HNx.out HNo.out, HS5.out, HBx.out⟩, HB6.out⟩
                case measure => simp [intOf]; omega
              cases q
              case true =>
                go_wp2_with fail
                go_ret
                exact ⟨rfl, HBx.out⟩
              cases oy
              case false =>
                go_wp2_with fail
                go_ret
                exact ⟨rfl, HBx.out⟩
              have HNo : Hid (¬ gdOk false x.v ⟨⟨va, vb, vc, vp⟩, true, ons, ona, onc⟩) := fun h => by
                have := h.2; cases this
              go_wp2_with fail
              go_roundw
              case rel => exact ⟨⟨m + 1, hlm, by go_num, HNx.out HNo.out, HS5.out, HBx.out⟩, HB6.out⟩
              case measure => simp [intOf]; omega
            · exfalso
              obtain ⟨o, h1, h2⟩ := HGg.out
              obtain ⟨j, hj, rfl⟩ := List.getElem_of_mem h1
              exact HA2.out j hj (by omega) h2
        · exfalso
          obtain ⟨o, h1, _⟩ := HG.out
          rw [find_miss (fun j hj => HA.out j hj (by omega))] at h1
          cases h1
end Go.Proofs.YtllkiedikjgkbaaGreatDoor
