/- The reference's Same of ranges: a walk. The reference of choices: SameOffers of two rows that hold the same: a walk. The reference of choices: Same of two tables that hold the same: a walk. -/
import Derived.Test.YtbihdgnhdlpmgaaGreatDoorSemCom
import Derived.Test.YtbihdgnhdlpmgaaGreatDoorProg
import Derived.Test.YtbihdgnhdlpmgaaGreatDoorRanMath
import Derived.Test.YtbihdgnhdlpmgaaGreatDoorCells
import Derived.Test.YtbihdgnhdlpmgaaGreatDoorChOffers
import Derived.Deep.CutBlock
namespace Go
theorem bytes_inj {p q : ByteArray} (h : p.toList = q.toList) : p = q := by
  rw [Lib.toList_data, Lib.toList_data] at h
  exact ByteArray.ext (Array.toList_inj.1 h)
end Go
namespace Go.Proofs.YtbihdgnhdlpmgaaGreatDoor
open Go.RowKit
set_option maxRecDepth 100000 in
theorem bnd_eq (o a b c : Int) (p : ByteArray) (o' a' b' c' : Int) (p' : ByteArray) (r : Bool) (hr : r = decide (o = o' ∧ a = a' ∧ b = b' ∧ c = c' ∧ p = p')) (W : World) :
    (Op.equalIn 10000 88 (.agg #[.int .i64 o, .int .i64 a, .int .i64 b, .int .i64 c, .string p]) (.agg #[.int .i64 o', .int .i64 a', .int .i64 b', .int .i64 c', .string p'])).run Tryz.prog W = .ok r W := by
  subst hr
  go_simp
  by_cases h0 : o = o'
  · by_cases h1 : a = a'
    · by_cases h2 : b = b'
      · by_cases h3 : c = c'
        · by_cases h4 : p.toList = p'.toList
          · have h5 := bytes_inj h4
            subst h5
            simp [h0, h1, h2, h3]
          · have h5 : p ≠ p' := fun e => h4 (by rw [e])
            simp [h0, h1, h2, h3, h4, h5]
        · simp [h0, h1, h2, h3]
      · simp [h0, h1, h2]
    · simp [h0, h1]
  · simp [h0]
def SmRel (xs ys : List Bnd) (w : World) (i : Value) (wr : World) : Prop :=
  ∃ k : Nat, k ≤ xs.length ∧ i = .int .i64 (k : Int) ∧ xs.take k = ys.take k ∧ Below w.heap.size w wr
noncomputable instance : DecidableEq Bnd := fun _ _ => Classical.propDecidable _
noncomputable def sameB (xs ys : List Bnd) : Bool := decide (xs = ys)
set_option maxRecDepth 100000 in
set_option maxHeartbeats 2000000 in
theorem same_any (v u : Value) (xs ys : List Bnd) (w : World) (hv : Bnds w v xs) (hlen : ∃ a cap, v = .slice a xs.length cap) (hu : Bnds w u ys) (hlen' : ∃ a cap, u = .slice a ys.length cap) (hn : xs.length ≤ 9223372036854775807) :
    Calls Tryz.prog 25 #[v, u] w fun e w' => e = .returned (.bool (sameB xs ys)) ∧ Below w.heap.size w w' := by
  obtain ⟨a0, cap0, rfl⟩ := hlen
  obtain ⟨a1, cap1, rfl⟩ := hlen'
  have HC := Lib.hid hv.cases.2
  have HD := Lib.hid hu.cases.2
  clear hv hu
  by_cases hl : xs.length = ys.length
  case neg =>
    have q : ((xs.length : Int) != (ys.length : Int)) = true := by simp; omega
    have q' : decide (xs.length = ys.length) = false := decide_eq_false hl
    have HF : Hid (sameB xs ys = false) := by show _ = _; exact decide_eq_false (fun e => hl (by rw [e]))
    clear hl
    go_enter Tryz.func25, Tryz.ntmps25
    go_wp2_with fail
    go_ret
    exact ⟨by rw [HF.out]; rfl, Below.refl _ _⟩
  rcases HC.out with ⟨_, _, _, hx⟩ | ⟨bx, ox, cap, hva, hn0, hbx, hc⟩
  · have h0 : xs.length = 0 := by rw [hx]; rfl
    have h0' : ys.length = 0 := by omega
    have HF : Hid (sameB xs ys = true) := by show _ = _; refine decide_eq_true ?_; rw [hx, List.eq_nil_of_length_eq_zero h0']
    rw [h0, h0']
    clear hl h0 h0' hx HC HD
    go_enter Tryz.func25, Tryz.ntmps25
    go_wp2_with fail
    go_loop [5] (fun i => i = .int .i64 0) (fun _ => 0)
    case atStart => rfl
    case round =>
      subst hrel
      go_wp2_with fail
      go_ret
      exact ⟨by rw [HF.out]; rfl, Below.refl _ _⟩
  rcases HD.out with ⟨_, _, _, hy⟩ | ⟨by', oy, cap', hua, hn0', hby, hd⟩
  · rw [hy] at hl; rw [hl] at hn0; cases hn0
  have ha0 : a0 = some ⟨bx, ox, none⟩ := by injection hva
  have ha1 : a1 = some ⟨by', oy, none⟩ := by injection hua
  subst ha0 ha1
  have HX := Lib.hid hc
  have HY := Lib.hid hd
  have q : ((xs.length : Int) != (ys.length : Int)) = false := by simp; omega
  have HL := Lib.hid hl
  rw [← hl]
  rw [← hl] at q
  clear hc hd hva hua hl HC HD
  go_enter Tryz.func25, Tryz.ntmps25
  go_wp2_with fail
  go_loopw [5] (fun i wr => SmRel xs ys w i wr) (fun i _ => xs.length - (intOf i).toNat)
  case atStart => exact ⟨0, Nat.zero_le _, rfl, rfl, Below.refl _ _⟩
  case round =>
    obtain ⟨k, hk, rfl, heq, hb⟩ := hrel
    have HQ := Lib.hid heq
    clear heq
    by_cases hlt : k < xs.length
    · have hlt' : k < ys.length := by have := HL.out; omega
      have i0 : (0 : Int) ≤ (k : Int) := by omega
      have i1 : (k : Int) < (xs.length : Int) := by omega
      obtain ⟨g0, g1, g2, g3, g4⟩ := HX.out k hlt
      obtain ⟨f0, f1, f2, f3, f4⟩ := HY.out k hlt'
      have c0 := (hb.cell (p := ⟨bx, ox + k * 5, none⟩) hbx).trans g0
      have c1 := (hb.cell (p := ⟨bx, ox + k * 5 + 1, none⟩) hbx).trans g1
      have c2 := (hb.cell (p := ⟨bx, ox + k * 5 + 2, none⟩) hbx).trans g2
      have c3 := (hb.cell (p := ⟨bx, ox + k * 5 + 3, none⟩) hbx).trans g3
      have c4 := (hb.cell (p := ⟨bx, ox + k * 5 + 4, none⟩) hbx).trans g4
      have d0 := (hb.cell (p := ⟨by', oy + k * 5, none⟩) hby).trans f0
      have d1 := (hb.cell (p := ⟨by', oy + k * 5 + 1, none⟩) hby).trans f1
      have d2 := (hb.cell (p := ⟨by', oy + k * 5 + 2, none⟩) hby).trans f2
      have d3 := (hb.cell (p := ⟨by', oy + k * 5 + 3, none⟩) hby).trans f3
      have d4 := (hb.cell (p := ⟨by', oy + k * 5 + 4, none⟩) hby).trans f4
      have HT := Lib.hid (List.take_succ_eq_append_getElem hlt)
      have HT' := Lib.hid (List.take_succ_eq_append_getElem hlt')
      have HG : Hid (xs = ys → xs[k] = ys[k]) := by intro e; subst e; rfl
      obtain ⟨⟨o, ⟨a, b, c, p⟩⟩, hxe⟩ : ∃ x, xs[k] = x := ⟨_, rfl⟩
      obtain ⟨⟨o', ⟨a', b', c', p'⟩⟩, hye⟩ : ∃ y, ys[k] = y := ⟨_, rfl⟩
      rw [hxe] at c0 c1 c2 c3 c4 HG HT
      rw [hye] at d0 d1 d2 d3 d4 HG HT'
      clear g0 g1 g2 g3 g4 f0 f1 f2 f3 f4 hxe hye
      by_cases he : o = o' ∧ a = a' ∧ b = b' ∧ c = c' ∧ p = p'
      · have r1 : ∀ W, (Op.equalIn 10000 88 (.agg #[.int .i64 o, .int .i64 a, .int .i64 b, .int .i64 c, .string p]) (.agg #[.int .i64 o', .int .i64 a', .int .i64 b', .int .i64 c', .string p'])).run Tryz.prog W = .ok true W := fun W => bnd_eq _ _ _ _ _ _ _ _ _ _ true (decide_eq_true he).symm W
        have HEe := Lib.hid he
        clear he
        go_wp2_with fail
        go_quiet (fail)
        go_wp2_with fail
        go_roundw
        case rel =>
          refine ⟨k + 1, hlt, by go_num, ?_, below_drewN hb _⟩
          obtain ⟨h0, h1, h2, h3, h4⟩ := HEe.out
          rw [HT.out, HT'.out, HQ.out, h0, h1, h2, h3, h4]
        case measure => simp [intOf]; omega
      · have r1 : ∀ W, (Op.equalIn 10000 88 (.agg #[.int .i64 o, .int .i64 a, .int .i64 b, .int .i64 c, .string p]) (.agg #[.int .i64 o', .int .i64 a', .int .i64 b', .int .i64 c', .string p'])).run Tryz.prog W = .ok false W := fun W => bnd_eq _ _ _ _ _ _ _ _ _ _ false (decide_eq_false he).symm W
        have HF : Hid (sameB xs ys = false) := by
          show _ = _
          refine decide_eq_false (fun e => he ?_)
          have := HG.out e
          injection this with h0 h1
          injection h1 with h1 h2 h3 h4
          exact ⟨h0, h1, h2, h3, h4⟩
        clear he
        go_wp2_with fail
        go_quiet (fail)
        go_wp2_with fail
        go_ret
        exact ⟨by rw [HF.out]; rfl, below_drewN hb _⟩
    · have q2 : decide (k < xs.length) = false := decide_eq_false hlt
      have HF : Hid (sameB xs ys = true) := by
        show _ = _
        refine decide_eq_true ?_
        have h := HQ.out
        have hl := HL.out
        rw [List.take_of_length_le (by omega), List.take_of_length_le (by omega)] at h
        exact h
      clear hlt
      go_wp2_with fail
      go_ret
      exact ⟨by rw [HF.out]; rfl, hb⟩
end Go.Proofs.YtbihdgnhdlpmgaaGreatDoor

namespace Go
open Go.RowKit
/-- two offers that hold the same, wherever their needs lie -/
def SimO (o o' : DOff) : Prop := o.v = o'.v ∧ o.y = o'.y ∧ o.ns.map Prod.fst = o'.ns.map Prod.fst
theorem SimO.refl (o : DOff) : SimO o o := ⟨rfl, rfl, rfl⟩
/-- what the region looks at -/
def NdS (b1 o1 : Nat) (v1 : Value) (b2 o2 : Nat) (v2 : Value) (b3 o3 : Nat) (v3 : Value) (b4 o4 : Nat) (v4 : Value) (A : ByteArray) (w0 W : World) : Prop :=
  W.cell? ⟨b1, o1, none⟩ = some v1 ∧ W.cell? ⟨b2, o2, none⟩ = some v2 ∧ W.cell? ⟨b3, o3, none⟩ = some (.string A) ∧ W.cell? ⟨b3, o3 + 1, none⟩ = some v3 ∧ W.cell? ⟨b4, o4, none⟩ = some (.string A) ∧ W.cell? ⟨b4, o4 + 1, none⟩ = some v4 ∧ Below w0.heap.size w0 W
theorem NdS.on {b1 o1 : Nat} {v1 : Value} {b2 o2 : Nat} {v2 : Value} {b3 o3 : Nat} {v3 : Value} {b4 o4 : Nat} {v4 : Value} {A : ByteArray} {w0 : World} : ∀ W W', NdS b1 o1 v1 b2 o2 v2 b3 o3 v3 b4 o4 v4 A w0 W → Below W.heap.size W W' → NdS b1 o1 v1 b2 o2 v2 b3 o3 v3 b4 o4 v4 A w0 W' :=
  fun _ _ ⟨h0, h1, h2, h3, h4, h5, h6⟩ hb => ⟨cell_on h0 hb, cell_on h1 hb, cell_on h2 hb, cell_on h3 hb, cell_on h4 hb, cell_on h5 hb, below_then h6 hb⟩
def SoRel (n : Nat) (w : World) (i : Value) (wr : World) : Prop := ∃ k : Nat, k ≤ n ∧ i = .int .i64 (k : Int) ∧ Below w.heap.size w wr
end Go
namespace Go.Proofs.YtbihdgnhdlpmgaaGreatDoor
open Go.RowKit
set_option maxRecDepth 100000 in
set_option maxHeartbeats 8000000 in
theorem rsameO_any (v u : Value) (os ps : List DOff) (w : World) (hv : Offs w v os) (hu : Offs w u ps) (hl : ps.length = os.length) (hs : ∀ k (h : k < os.length) (h' : k < ps.length), SimO os[k] ps[k]) (hos : os.length ≤ 1000000) :
    Calls Tryz.prog 11 #[v, u] w fun e w' => e = .returned (.bool true) ∧ Below w.heap.size w w' := by
  obtain ⟨a0, cap0, rfl⟩ := hv.1.len.2
  obtain ⟨a1, cap1, rfl⟩ := hu.1.len.2
  have HV := Lib.hid hv
  have HU := Lib.hid hu
  have HS := Lib.hid hs
  have q3 : ((os.length : Int) != (os.length : Int)) = false := by simp
  obtain ⟨n, hn⟩ : ∃ n, os.length = n := ⟨_, rfl⟩
  have hn2 : ps.length = n := by rw [hl, hn]
  have HN1 := Lib.hid hn
  have HN2 := Lib.hid hn2
  clear hv hu hs hl
  rw [hn, hn2]
  rw [hn] at q3 hos
  clear hn hn2
  go_enter Tryz.func11, Tryz.ntmps11
  go_wp2_with fail
  go_loopw [5] (fun i wr => SoRel n w i wr) (fun i _ => n - (intOf i).toNat)
  case atStart => exact ⟨0, Nat.zero_le _, rfl, Below.refl _ _⟩
  case round =>
    obtain ⟨k, hk, rfl, hb⟩ := hrel
    by_cases hlt : k < n
    · have i0 : (0 : Int) ≤ (k : Int) := by omega
      have i1 : (k : Int) < (n : Int) := by omega
      have hlx : k < os.length := by rw [HN1.out]; exact hlt
      have hly : k < ps.length := by rw [HN2.out]; exact hlt
      obtain ⟨bx, ox, rfl, hbx, c0, c1, c2, c3, c4, c5⟩ := HV.out.1.at' hb hlx
      obtain ⟨by', oy, rfl, hby, d0, d1, d2, d3, d4, d5⟩ := HU.out.1.at' hb hly
      have hsm := HS.out k hlx hly
      have hxm := HV.out.2 _ (List.getElem_mem hlx)
      have hym := HU.out.2 _ (List.getElem_mem hly)
      obtain ⟨⟨xv, xy, xs, xa, xc⟩, hxe⟩ : ∃ x, os[k] = x := ⟨_, rfl⟩
      obtain ⟨⟨yv, yy, ys, ya, yc⟩, hye⟩ : ∃ x, ps[k] = x := ⟨_, rfl⟩
      rw [hxe] at c0 c1 c2 c3 c4 c5 hsm hxm
      rw [hye] at d0 d1 d2 d3 d4 d5 hsm hym
      obtain ⟨h1, h2, h3⟩ := hsm
      simp only at h1 h2 h3
      subst h1 h2
      have hlen : ys.length = xs.length := by have := congrArg List.length h3; simpa using this.symm
      obtain ⟨m, hm⟩ : ∃ m, xs.length = m := ⟨_, rfl⟩
      have hm2 : ys.length = m := by rw [hlen, hm]
      have hxw := hxm.1
      have hyw := hym.1
      simp only [DOff.nv] at c5 d5 hxw hyw
      rw [hm] at c5
      rw [hm2] at d5
      have HX := Lib.hid hxw
      have HY := Lib.hid hyw
      have H3 := Lib.hid h3
      have HM1 := Lib.hid hm
      have HM2 := Lib.hid hm2
      have q4 : ((m : Int) != (m : Int)) = false := by simp
      have hmx : m ≤ 9223372036854775807 := by
        have := hxw.len.1
        unfold maxLen at this; omega
      have q5 : (xy != xy) = false := by simp
      have r1 := fun W => ver_eq xv.a xv.b xv.c xv.p xv.a xv.b xv.c xv.p true (by simp) W
      clear hxe hye hxm hym hxw hyw h3 hm hm2 hlen
      go_wp2_with fail
      go_quiet (fail)
      go_wp2_with fail
      go_loopw [6] (fun i wy => SoRel m wr i wy) (fun i _ => m - (intOf i).toNat)
      case atStart => exact ⟨0, Nat.zero_le _, rfl, below_drewN (Below.refl _ _) _⟩
      case round =>
        obtain ⟨j, hj, rfl, hb3⟩ := hrel
        have hb5 := below_then hb hb3
        have k0 := cell_on c5 hb3
        have k1 := cell_on d5 hb3
        by_cases hlt2 : j < m
        · have j0 : (0 : Int) ≤ (j : Int) := by omega
          have j1 : (j : Int) < (m : Int) := by omega
          have hjx : j < xs.length := by rw [HM1.out]; exact hlt2
          have hjy : j < ys.length := by rw [HM2.out]; exact hlt2
          obtain ⟨bn, on, rfl, hbn, k2, k3⟩ := HX.out.at' hb5 hjx
          obtain ⟨bp, op, rfl, hbp, k4, k5⟩ := HY.out.at' hb5 hjy
          have hxe : xs[j].1 = ys[j].1 := by
            have h : (xs.map Prod.fst)[j]? = (ys.map Prod.fst)[j]? := by rw [H3.out]
            rw [List.getElem?_map, List.getElem?_map, List.getElem?_eq_getElem hjx, List.getElem?_eq_getElem hjy] at h
            simpa using h
          obtain ⟨hr1, ra, rcap, hr2⟩ := HX.out.2 _ (List.getElem_mem hjx)
          obtain ⟨hs1, sa, scap, hs2⟩ := HY.out.2 _ (List.getElem_mem hjy)
          rw [← hxe] at k4 hs1 hs2
          obtain ⟨N, hN⟩ : ∃ N, xs[j].1 = N := ⟨_, rfl⟩
          rw [hN] at k2 k4 hr1 hr2 hs1 hs2
          rw [hr2] at k3 hr1
          rw [hs2] at k5 hs1
          obtain ⟨A, hA⟩ : ∃ A, S N.name = A := ⟨_, rfl⟩
          rw [hA] at k2 k4
          obtain ⟨rn, hrn⟩ : ∃ n, N.bs.length = n := ⟨_, rfl⟩
          rw [hrn] at k3 k5 hr1 hs1
          have HR1 := Lib.hid hr1
          have HS1 := Lib.hid hs1
          have HRn := Lib.hid hrn
          clear hxe hN hA hrn hr1 hr2 hs1 hs2
          go_upto_region 11 with fail
          go_cut [7, 8] from 69 to 84 (fun x y wy => ∃ p q, x = .pointer (some ⟨p, 0, none⟩) ∧ y = .pointer (some ⟨q, 0, none⟩) ∧ wy.cell? ⟨p, 0, none⟩ = some (.string A) ∧ wy.cell? ⟨p, 1, none⟩ = some (.slice ra rn rcap) ∧ wy.cell? ⟨q, 0, none⟩ = some (.string A) ∧ wy.cell? ⟨q, 1, none⟩ = some (.slice sa rn scap) ∧ Below wr.heap.size wr wy)
          case first =>
            have hst : NdS bx (ox + k * 6 + 5) (.slice (some ⟨bn, on, none⟩) m xc) by' (oy + k * 6 + 5) (.slice (some ⟨bp, op, none⟩) m yc) bn (on + j * 2) (.slice ra rn rcap) bp (op + j * 2) (.slice sa rn scap) A wr wr.drew := ⟨cell_on k0 (Below.refl _ _).drew, cell_on k1 (Below.refl _ _).drew, cell_on k2 (Below.refl _ _).drew, cell_on k3 (Below.refl _ _).drew, cell_on k4 (Below.refl _ _).drew, cell_on k5 (Below.refl _ _).drew, (Below.refl _ _).drew⟩
            have hst1 : NdS bx (ox + k * 6 + 5) (.slice (some ⟨bn, on, none⟩) m xc) by' (oy + k * 6 + 5) (.slice (some ⟨bp, op, none⟩) m yc) bn (on + j * 2) (.slice ra rn rcap) bp (op + j * 2) (.slice sa rn scap) A wr wr := ⟨k0, k1, k2, k3, k4, k5, Below.refl _ _⟩
            go_wp2_with fail
            refine wp_region_held_drew (S := (fun W => NdS bx (ox + k * 6 + 5) (.slice (some ⟨bn, on, none⟩) m xc) by' (oy + k * 6 + 5) (.slice (some ⟨bp, op, none⟩) m yc) bn (on + j * 2) (.slice ra rn rcap) bp (op + j * 2) (.slice sa rn scap) A wr W)) (by kernel_rfl) (hst) (fun hHeld => ?_)
            refine wpAnyH_take (i := 0) (v := ?_) rfl (by kernel_rfl) (by kernel_rfl) (by kernel_rfl) (fun _ _ _ h => h) (Or.inl ⟨by kernel_rfl, ?_⟩) hHeld ?_
            rotate_left
            · (rintro W ⟨k0, k1, k2, k3, k4, k5, _⟩; go_simp; (try with_reducible rfl))
            (try simp only [Act.put, List.getElem_toArray, List.getElem_cons_zero, List.setIfInBounds_toArray, List.set_cons_succ, List.set_cons_zero])
            refine wpAnyH_take (i := 1) (v := ?_) rfl (by kernel_rfl) (by kernel_rfl) (by kernel_rfl) (fun _ _ _ h => h) (Or.inl ⟨by kernel_rfl, ?_⟩) hHeld ?_
            rotate_left
            · (rintro W ⟨k0, k1, k2, k3, k4, k5, _⟩; go_simp; (try with_reducible rfl))
            (try simp only [Act.put, List.getElem_toArray, List.getElem_cons_succ, List.getElem_cons_zero, List.setIfInBounds_toArray, List.set_cons_succ, List.set_cons_zero])
            refine wpAnyH_take (i := 2) (v := ?_) rfl (by kernel_rfl) (by kernel_rfl) (by kernel_rfl) (fun _ _ _ h => h) (Or.inl ⟨by kernel_rfl, ?_⟩) hHeld ?_
            rotate_left
            · (rintro W ⟨k0, k1, k2, k3, k4, k5, _⟩; go_simp; (try with_reducible rfl))
            (try simp only [Act.put, List.getElem_toArray, List.getElem_cons_succ, List.getElem_cons_zero, List.setIfInBounds_toArray, List.set_cons_succ, List.set_cons_zero])
            refine wpAnyH_take (i := 3) (v := ?_) rfl (by kernel_rfl) (by kernel_rfl) (by kernel_rfl) (fun _ _ _ h => h) (Or.inl ⟨by kernel_rfl, ?_⟩) hHeld ?_
            rotate_left
            · (rintro W ⟨k0, k1, k2, k3, k4, k5, _⟩; go_simp; (try with_reducible rfl))
            (try simp only [Act.put, List.getElem_toArray, List.getElem_cons_succ, List.getElem_cons_zero, List.setIfInBounds_toArray, List.set_cons_succ, List.set_cons_zero])
            refine wpAnyH_take (i := 4) (v := ?_) rfl (by kernel_rfl) (by kernel_rfl) (by kernel_rfl) (fun _ _ _ h => h) (Or.inl ⟨by kernel_rfl, ?_⟩) hHeld ?_
            rotate_left
            · (rintro W ⟨k0, k1, k2, k3, k4, k5, _⟩; go_simp; (try with_reducible rfl))
            (try simp only [Act.put, List.getElem_toArray, List.getElem_cons_succ, List.getElem_cons_zero, List.setIfInBounds_toArray, List.set_cons_succ, List.set_cons_zero])
            refine wpAnyH_take (i := 5) (v := ?_) rfl (by kernel_rfl) (by kernel_rfl) (by kernel_rfl) (fun _ _ _ h => h) (Or.inl ⟨by kernel_rfl, ?_⟩) hHeld ?_
            rotate_left
            · (rintro W ⟨k0, k1, k2, k3, k4, k5, _⟩; go_simp; (try with_reducible rfl))
            (try simp only [Act.put, List.getElem_toArray, List.getElem_cons_succ, List.getElem_cons_zero, List.setIfInBounds_toArray, List.set_cons_succ, List.set_cons_zero])
            refine wpAnyH_take (i := 6) (v := ?_) rfl (by kernel_rfl) (by kernel_rfl) (by kernel_rfl) (fun _ _ _ h => h) (Or.inl ⟨by kernel_rfl, ?_⟩) hHeld ?_
            rotate_left
            · (rintro W ⟨k0, k1, k2, k3, k4, k5, _⟩; go_simp; (try with_reducible rfl))
            (try simp only [Act.put, List.getElem_toArray, List.getElem_cons_succ, List.getElem_cons_zero, List.setIfInBounds_toArray, List.set_cons_succ, List.set_cons_zero])
            refine wpAnyH_take (i := 7) (v := ?_) rfl (by kernel_rfl) (by kernel_rfl) (by kernel_rfl) (fun _ _ _ h => h) (Or.inl ⟨by kernel_rfl, ?_⟩) hHeld ?_
            rotate_left
            · (rintro W ⟨k0, k1, k2, k3, k4, k5, _⟩; go_simp; (try with_reducible rfl))
            (try simp only [Act.put, List.getElem_toArray, List.getElem_cons_succ, List.getElem_cons_zero, List.setIfInBounds_toArray, List.set_cons_succ, List.set_cons_zero])
            refine wpAnyH_take (i := 8) (v := ?_) rfl (by kernel_rfl) (by kernel_rfl) (by kernel_rfl) (fun _ _ _ h => h) (Or.inl ⟨by kernel_rfl, ?_⟩) hHeld ?_
            rotate_left
            · (rintro W ⟨k0, k1, k2, k3, k4, k5, _⟩; go_simp; (try with_reducible rfl))
            (try simp only [Act.put, List.getElem_toArray, List.getElem_cons_succ, List.getElem_cons_zero, List.setIfInBounds_toArray, List.set_cons_succ, List.set_cons_zero])
            refine wpAnyH_take (i := 9) (v := ?_) rfl (by kernel_rfl) (by kernel_rfl) (by kernel_rfl) (fun _ _ _ h => h) (Or.inl ⟨by kernel_rfl, ?_⟩) hHeld ?_
            rotate_left
            · (rintro W ⟨k0, k1, k2, k3, k4, k5, _⟩; go_simp; (try with_reducible rfl))
            (try simp only [Act.put, List.getElem_toArray, List.getElem_cons_succ, List.getElem_cons_zero, List.setIfInBounds_toArray, List.set_cons_succ, List.set_cons_zero])
            refine wpAnyH_take (i := 10) (v := ?_) rfl (by kernel_rfl) (by kernel_rfl) (by kernel_rfl) (fun _ _ _ h => h) (Or.inl ⟨by kernel_rfl, ?_⟩) hHeld ?_
            rotate_left
            · (rintro W ⟨k0, k1, k2, k3, k4, k5, _⟩; go_simp; (try with_reducible rfl))
            (try simp only [Act.put, List.getElem_toArray, List.getElem_cons_succ, List.getElem_cons_zero, List.setIfInBounds_toArray, List.set_cons_succ, List.set_cons_zero])
            refine wpAnyH_take (i := 11) (v := ?_) rfl (by kernel_rfl) (by kernel_rfl) (by kernel_rfl) (fun _ _ _ h => h) (Or.inl ⟨by kernel_rfl, ?_⟩) hHeld ?_
            rotate_left
            · (rintro W ⟨k0, k1, k2, k3, k4, k5, _⟩; go_simp; (try with_reducible rfl))
            (try simp only [Act.put, List.getElem_toArray, List.getElem_cons_succ, List.getElem_cons_zero, List.setIfInBounds_toArray, List.set_cons_succ, List.set_cons_zero])
            refine wpAnyH_take (i := 12) (v := ?_) rfl (by kernel_rfl) (by kernel_rfl) (by kernel_rfl) (fun _ _ _ h => h) (Or.inl ⟨by kernel_rfl, ?_⟩) hHeld ?_
            rotate_left
            · (rintro W ⟨k0, k1, k2, k3, k4, k5, _⟩; go_simp; (try with_reducible rfl))
            (try simp only [Act.put, List.getElem_toArray, List.getElem_cons_succ, List.getElem_cons_zero, List.setIfInBounds_toArray, List.set_cons_succ, List.set_cons_zero])
            refine wpAnyH_take (i := 13) (v := ?_) rfl (by kernel_rfl) (by kernel_rfl) (by kernel_rfl) (fun _ _ _ h => h) (Or.inl ⟨by kernel_rfl, ?_⟩) hHeld ?_
            rotate_left
            · (rintro W ⟨k0, k1, k2, k3, k4, k5, _⟩; go_simp; (try with_reducible rfl))
            (try simp only [Act.put, List.getElem_toArray, List.getElem_cons_succ, List.getElem_cons_zero, List.setIfInBounds_toArray, List.set_cons_succ, List.set_cons_zero])
            refine wpAnyH_take (i := 14) (v := ?_) rfl (by kernel_rfl) (by kernel_rfl) (by kernel_rfl) (fun _ _ _ h => h) (Or.inl ⟨by kernel_rfl, ?_⟩) hHeld ?_
            rotate_left
            · (rintro W ⟨k0, k1, k2, k3, k4, k5, _⟩; go_simp; (try with_reducible rfl))
            (try simp only [Act.put, List.getElem_toArray, List.getElem_cons_succ, List.getElem_cons_zero, List.setIfInBounds_toArray, List.set_cons_succ, List.set_cons_zero])
            refine wpAnyH_take (i := 15) (v := ?_) rfl (by kernel_rfl) (by kernel_rfl) (by kernel_rfl) (fun _ _ _ h => h) (Or.inl ⟨by kernel_rfl, ?_⟩) hHeld ?_
            rotate_left
            · (rintro W ⟨k0, k1, k2, k3, k4, k5, _⟩; go_simp; (try with_reducible rfl))
            (try simp only [Act.put, List.getElem_toArray, List.getElem_cons_succ, List.getElem_cons_zero, List.setIfInBounds_toArray, List.set_cons_succ, List.set_cons_zero])
            refine wpAnyH_ready (rs := [16, 17]) (by kernel_rfl) (by simp) ?_
            refine AllReadyH.cons rfl (fun K hK => ?_) (AllReadyH.cons rfl (fun K hK => ?_) AllReadyH.nil)
            · go_simp
              have g1 := NdS.on _ _ hHeld ((Below.refl _ _).alloc (Nat.le_refl _) (.cells #[.string ⟨#[]⟩, .slice none 0 0] 44))
              refine hK.out _ _ g1 (fun hHeld => ?_)
              clear hK K
              (try simp only [Act.put, List.getElem_toArray, List.getElem_cons_succ, List.getElem_cons_zero, List.setIfInBounds_toArray, List.set_cons_succ, List.set_cons_zero])
              refine wpAnyH_ready (rs := [17]) (by kernel_rfl) (by simp) ?_
              refine AllReadyH.cons rfl (fun K hK => ?_) AllReadyH.nil
              go_simp
              have g2 := NdS.on _ _ hHeld ((Below.refl _ _).alloc (Nat.le_refl _) (.cells #[.string ⟨#[]⟩, .slice none 0 0] 44))
              refine hK.out _ _ g2 (fun hHeld => ?_)
              clear hK K
              (try simp only [Act.put, List.getElem_toArray, List.getElem_cons_succ, List.getElem_cons_zero, List.setIfInBounds_toArray, List.set_cons_succ, List.set_cons_zero])
              refine wpAnyH_ready (rs := [18]) (by kernel_rfl) (by simp) ?_
              refine AllReadyH.cons rfl (fun K hK => ?_) AllReadyH.nil
              go_simp
              have h18 : Below wr.heap.size wr ((wr.alloc (.cells #[.string A, .slice ra rn rcap] 44)).alloc (.cells #[.string ⟨#[]⟩, .slice none 0 0] 44)).drew := (((Below.refl wr.heap.size wr).alloc (Nat.le_refl _) (.cells #[.string A, .slice ra rn rcap] 44)).alloc (by simp) (.cells #[.string ⟨#[]⟩, .slice none 0 0] 44)).drew
              refine hK.out _ _ (NdS.on _ _ hst1 h18) (fun hHeld => ?_)
              clear hK K
              (try simp only [Act.put, List.getElem_toArray, List.getElem_cons_succ, List.getElem_cons_zero, List.setIfInBounds_toArray, List.set_cons_succ, List.set_cons_zero])
              refine wpAnyH_ready (rs := [19]) (by kernel_rfl) (by simp) ?_
              refine AllReadyH.cons rfl (fun K hK => ?_) AllReadyH.nil
              go_simp
              have h19 : Below wr.heap.size wr ((wr.alloc (.cells #[.string A, .slice ra rn rcap] 44)).alloc (.cells #[.string A, .slice sa rn scap] 44)).drew := (((Below.refl wr.heap.size wr).alloc (Nat.le_refl _) (.cells #[.string A, .slice ra rn rcap] 44)).alloc (by simp) (.cells #[.string A, .slice sa rn scap] 44)).drew
              refine hK.out _ _ (NdS.on _ _ hst1 h19) (fun hHeld => ?_)
              clear hK K
              (try simp only [Act.put, List.getElem_toArray, List.getElem_cons_succ, List.getElem_cons_zero, List.setIfInBounds_toArray, List.set_cons_succ, List.set_cons_zero])
              refine wpAnyH_done (by kernel_rfl) ?_ _
              have hd : Below ((wr.alloc (.cells #[.string A, .slice ra rn rcap] 44)).alloc (.cells #[.string A, .slice sa rn scap] 44)).heap.size ((wr.alloc (.cells #[.string A, .slice ra rn rcap] 44)).alloc (.cells #[.string A, .slice sa rn scap] 44)) ((wr.alloc (.cells #[.string A, .slice ra rn rcap] 44)).alloc (.cells #[.string A, .slice sa rn scap] 44)).drew := (Below.refl _ _).drew
              have t0 := two_cells hd 0
              have t1 := two_cells hd 1
              go_wp2_with fail
              go_meet
              case rel => exact ⟨_, _, rfl, rfl, t0.1, t1.1, t0.2, t1.2, h19⟩
            · go_simp
              have g1 := NdS.on _ _ hHeld ((Below.refl _ _).alloc (Nat.le_refl _) (.cells #[.string ⟨#[]⟩, .slice none 0 0] 44))
              refine hK.out _ _ g1 (fun hHeld => ?_)
              clear hK K
              (try simp only [Act.put, List.getElem_toArray, List.getElem_cons_succ, List.getElem_cons_zero, List.setIfInBounds_toArray, List.set_cons_succ, List.set_cons_zero])
              refine wpAnyH_ready (rs := [16]) (by kernel_rfl) (by simp) ?_
              refine AllReadyH.cons rfl (fun K hK => ?_) AllReadyH.nil
              go_simp
              have g2 := NdS.on _ _ hHeld ((Below.refl _ _).alloc (Nat.le_refl _) (.cells #[.string ⟨#[]⟩, .slice none 0 0] 44))
              refine hK.out _ _ g2 (fun hHeld => ?_)
              clear hK K
              (try simp only [Act.put, List.getElem_toArray, List.getElem_cons_succ, List.getElem_cons_zero, List.setIfInBounds_toArray, List.set_cons_succ, List.set_cons_zero])
              refine wpAnyH_ready (rs := [18]) (by kernel_rfl) (by simp) ?_
              refine AllReadyH.cons rfl (fun K hK => ?_) AllReadyH.nil
              go_simp
              have h18 : Below wr.heap.size wr ((wr.alloc (.cells #[.string ⟨#[]⟩, .slice none 0 0] 44)).alloc (.cells #[.string A, .slice ra rn rcap] 44)).drew := (((Below.refl wr.heap.size wr).alloc (Nat.le_refl _) (.cells #[.string ⟨#[]⟩, .slice none 0 0] 44)).alloc (by simp) (.cells #[.string A, .slice ra rn rcap] 44)).drew
              refine hK.out _ _ (NdS.on _ _ hst1 h18) (fun hHeld => ?_)
              clear hK K
              (try simp only [Act.put, List.getElem_toArray, List.getElem_cons_succ, List.getElem_cons_zero, List.setIfInBounds_toArray, List.set_cons_succ, List.set_cons_zero])
              refine wpAnyH_ready (rs := [19]) (by kernel_rfl) (by simp) ?_
              refine AllReadyH.cons rfl (fun K hK => ?_) AllReadyH.nil
              go_simp
              have h19 : Below wr.heap.size wr ((wr.alloc (.cells #[.string A, .slice sa rn scap] 44)).alloc (.cells #[.string A, .slice ra rn rcap] 44)).drew := (((Below.refl wr.heap.size wr).alloc (Nat.le_refl _) (.cells #[.string A, .slice sa rn scap] 44)).alloc (by simp) (.cells #[.string A, .slice ra rn rcap] 44)).drew
              refine hK.out _ _ (NdS.on _ _ hst1 h19) (fun hHeld => ?_)
              clear hK K
              (try simp only [Act.put, List.getElem_toArray, List.getElem_cons_succ, List.getElem_cons_zero, List.setIfInBounds_toArray, List.set_cons_succ, List.set_cons_zero])
              refine wpAnyH_done (by kernel_rfl) ?_ _
              have hd : Below ((wr.alloc (.cells #[.string A, .slice sa rn scap] 44)).alloc (.cells #[.string A, .slice ra rn rcap] 44)).heap.size ((wr.alloc (.cells #[.string A, .slice sa rn scap] 44)).alloc (.cells #[.string A, .slice ra rn rcap] 44)) ((wr.alloc (.cells #[.string A, .slice sa rn scap] 44)).alloc (.cells #[.string A, .slice ra rn rcap] 44)).drew := (Below.refl _ _).drew
              have t0 := two_cells hd 0
              have t1 := two_cells hd 1
              go_wp2_with fail
              go_meet
              case rel => exact ⟨_, _, rfl, rfl, t0.2, t1.2, t0.1, t1.1, h19⟩
          case rest =>
            obtain ⟨p, q, rfl, rfl, e0, e1, f0, f1, hb6⟩ := hcut
            have hb7 := below_then hb3 hb6
            have hb8 := below_then hb5 hb6
            have HC := Lib.hid (same_any _ _ N.bs N.bs wc (HR1.out.below hb8 (Nat.le_refl _)) ⟨ra, rcap, by rw [HRn.out]⟩ (HS1.out.below hb8 (Nat.le_refl _)) ⟨sa, scap, by rw [HRn.out]⟩ (by have := HR1.out.cases.1; unfold maxLen at this; omega))
            rw [show sameB N.bs N.bs = true from decide_eq_true rfl] at HC
            have e4 : (A.toList == A.toList) = true := beq_self_eq_true _
            have e5 : (A.toList != A.toList) = false := by simp
            have z1 := cell_lt e0
            have z2 := cell_lt f0
            go_wp2_with fail
            refine HC.out.mono ?_
            rintro e w5 ⟨rfl, hb9⟩
            have hb10 := below_then hb7 hb9
            clear e0 e1 f0 f1 hb9
            go_wp2_with fail
            go_roundw
            case rel => exact ⟨j + 1, hlt2, by go_num, hb10⟩
            case measure => simp [intOf]; omega
        · have q6 : decide (j < m) = false := decide_eq_false hlt2
          clear hlt2
          go_wp2_with fail
          go_roundw
          case rel => exact ⟨k + 1, hlt, by go_num, hb5⟩
          case measure => simp [intOf]; omega
    · have q5 : decide (k < n) = false := decide_eq_false hlt
      clear hlt
      go_wp2_with fail
      go_ret
      exact ⟨rfl, hb⟩
end Go.Proofs.YtbihdgnhdlpmgaaGreatDoor

namespace Go
open Go.RowKit
/-- two packages that hold the same -/
def SimP (p q : DPack) : Prop := p.name = q.name ∧ q.os.length = p.os.length ∧ ∀ k (h : k < p.os.length) (h' : k < q.os.length), SimO p.os[k] q.os[k]
end Go
namespace Go.Proofs.YtbihdgnhdlpmgaaGreatDoor
open Go.RowKit
set_option maxRecDepth 100000 in
set_option maxHeartbeats 4000000 in
theorem rsameP_any (v u : Value) (ps qs : List DPack) (w : World) (hv : Packs w v ps) (hu : Packs w u qs) (hl : qs.length = ps.length) (hs : ∀ k (h : k < ps.length) (h' : k < qs.length), SimP ps[k] qs[k]) (hos : ∀ p ∈ ps, p.os.length ≤ 1000000) :
    Calls Tryz.prog 16 #[v, u] w fun e w' => e = .returned (.bool true) ∧ Below w.heap.size w w' := by
  obtain ⟨hmx, a0, cap0, rfl⟩ := hv.len
  obtain ⟨_, a1, cap1, rfl⟩ := hu.len
  have hmx2 : ps.length ≤ 9223372036854775807 := Nat.le_trans hmx (by decide)
  have HV := Lib.hid hv
  have HU := Lib.hid hu
  have HS := Lib.hid hs
  have HOs := Lib.hid hos
  have q3 : ((ps.length : Int) != (ps.length : Int)) = false := by simp
  obtain ⟨n, hn⟩ : ∃ n, ps.length = n := ⟨_, rfl⟩
  have hn2 : qs.length = n := by rw [hl, hn]
  have HN1 := Lib.hid hn
  have HN2 := Lib.hid hn2
  clear hv hu hs hl hmx hos
  rw [hn, hn2]
  rw [hn] at q3 hmx2
  clear hn hn2
  go_enter Tryz.func16, Tryz.ntmps16
  go_wp2_with fail
  go_loopw [5] (fun i wr => SoRel n w i wr) (fun i _ => n - (intOf i).toNat)
  case atStart => exact ⟨0, Nat.zero_le _, rfl, Below.refl _ _⟩
  case round =>
    obtain ⟨k, hk, rfl, hb⟩ := hrel
    by_cases hlt : k < n
    · have i0 : (0 : Int) ≤ (k : Int) := by omega
      have i1 : (k : Int) < (n : Int) := by omega
      have hlx : k < ps.length := by rw [HN1.out]; exact hlt
      have hly : k < qs.length := by rw [HN2.out]; exact hlt
      obtain ⟨bx, ox, rfl, hbx, c0, c1⟩ := HV.out.at' hb hlx
      obtain ⟨by', oy, rfl, hby, d0, d1⟩ := HU.out.at' hb hly
      have hsm := HS.out k hlx hly
      have hxm := (HV.out.2 _ (List.getElem_mem hlx)).1
      have hym := (HU.out.2 _ (List.getElem_mem hly)).1
      have hxo := HOs.out _ (List.getElem_mem hlx)
      obtain ⟨⟨xn, xo, xa, xc⟩, hxe⟩ : ∃ x, ps[k] = x := ⟨_, rfl⟩
      obtain ⟨⟨yn, yo, ya, yc⟩, hye⟩ : ∃ x, qs[k] = x := ⟨_, rfl⟩
      rw [hxe] at c0 c1 hsm hxm hxo
      rw [hye] at d0 d1 hsm hym
      obtain ⟨h1, h2, h3⟩ := hsm
      simp only [DPack.ov] at c0 c1 d0 d1 h1 h2 h3 hxm hym hxo
      subst h1
      have e4 : (xn.toList == xn.toList) = true := beq_self_eq_true _
      have e5 : (xn.toList != xn.toList) = false := by simp
      have HC := Lib.hid (rsameO_any _ _ xo yo wr.drew (hxm.below hb.drew (Nat.le_refl _)) (hym.below hb.drew (Nat.le_refl _)) h2 h3 hxo)
      clear hxe hye hxm hym h2 h3 hxo
      go_wp2_with fail
      refine region_still_tail 22 (by kernel_rfl) (by kernel_rfl) ?_
      simp only [List.take_succ_cons, List.take_zero, List.drop_succ_cons, List.drop_zero]
      repeat still_step
      refine wpStill_nil ?_
      go_wp2_with fail
      refine HC.out.mono ?_
      rintro e w5 ⟨rfl, hb5⟩
      have hb6 := below_then hb.drew hb5
      clear c0 c1 d0 d1 hb5
      go_wp2_with fail
      go_roundw
      case rel => exact ⟨k + 1, hlt, by go_num, hb6⟩
      case measure => simp [intOf]; omega
    · have q5 : decide (k < n) = false := decide_eq_false hlt
      clear hlt
      go_wp2_with fail
      go_ret
      exact ⟨rfl, hb⟩
end Go.Proofs.YtbihdgnhdlpmgaaGreatDoor
