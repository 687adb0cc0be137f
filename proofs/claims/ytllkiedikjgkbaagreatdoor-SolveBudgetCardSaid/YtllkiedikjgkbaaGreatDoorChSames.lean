/- The reference's Same of ranges: a walk. The reference of choices: SameOffers of two rows that hold the same: a walk. The reference of choices: Same of two tables that hold the same: a walk. Choices: the table, plainly: what is reached, and the two ways to gather it. -/
import Derived.Test.YtllkiedikjgkbaaGreatDoorSemCom
import Derived.Test.YtllkiedikjgkbaaGreatDoorProg
import Derived.Test.YtllkiedikjgkbaaGreatDoorRanMath
import Derived.Test.YtllkiedikjgkbaaGreatDoorCells
import Derived.Test.YtllkiedikjgkbaaGreatDoorChOffers
import Derived.Deep.CutBlock
namespace Go
theorem bytes_inj {p q : ByteArray} (h : p.toList = q.toList) : p = q := by
  rw [Lib.toList_data, Lib.toList_data] at h
  exact ByteArray.ext (Array.toList_inj.1 h)
end Go
namespace Go.Proofs.YtllkiedikjgkbaaGreatDoor
open Go.RowKit
set_option maxRecDepth 100000 in
theorem bnd_eq (o a b c : Int) (p : ByteArray) (o' a' b' c' : Int) (p' : ByteArray) (r : Bool) (hr : r = decide (o = o' ∧ a = a' ∧ b = b' ∧ c = c' ∧ p = p')) (W : World) :
    (Op.equalIn 10000 100 (.agg #[.int .i64 o, .int .i64 a, .int .i64 b, .int .i64 c, .string p]) (.agg #[.int .i64 o', .int .i64 a', .int .i64 b', .int .i64 c', .string p'])).run Tryz.prog W = .ok r W := by
  subst hr
  go_simp
  by_cases h0 : o = o'
  · by_cases h1 : a = a'
    · by_cases h2 : b = b'
      · by_cases h3 : c = c'
        · by_cases h4 : p.toList = p'.toList
          · have h5 := bytes_inj h4
            subst h5
            simp [h0, h1, h2, h3]
          · have h5 : p ≠ p' := fun e => h4 (by rw [e])
            simp [h0, h1, h2, h3, h4, h5]
        · simp [h0, h1, h2, h3]
      · simp [h0, h1, h2]
    · simp [h0, h1]
  · simp [h0]
def SmRel (xs ys : List Bnd) (w : World) (i : Value) (wr : World) : Prop :=
  ∃ k : Nat, k ≤ xs.length ∧ i = .int .i64 (k : Int) ∧ xs.take k = ys.take k ∧ Below w.heap.size w wr
noncomputable instance : DecidableEq Bnd := fun _ _ => Classical.propDecidable _
noncomputable def sameB (xs ys : List Bnd) : Bool := decide (xs = ys)
set_option maxRecDepth 100000 in
set_option maxHeartbeats 2000000 in
theorem same_any (v u : Value) (xs ys : List Bnd) (w : World) (hv : Bnds w v xs) (hlen : ∃ a cap, v = .slice a xs.length cap) (hu : Bnds w u ys) (hlen' : ∃ a cap, u = .slice a ys.length cap) (hn : xs.length ≤ 9223372036854775807) :
    Calls Tryz.prog 56 #[v, u] w fun e w' => e = .returned (.bool (sameB xs ys)) ∧ Below w.heap.size w w' := by
  obtain ⟨a0, cap0, rfl⟩ := hlen
  obtain ⟨a1, cap1, rfl⟩ := hlen'
  have HC := Lib.hid hv.cases.2
  have HD := Lib.hid hu.cases.2
  clear hv hu
  by_cases hl : xs.length = ys.length
  case neg =>
    have q : ((xs.length : Int) != (ys.length : Int)) = true := by simp; omega
    have q' : decide (xs.length = ys.length) = false := decide_eq_false hl
    have HF : Hid (sameB xs ys = false) := by show _ = _; exact decide_eq_false (fun e => hl (by rw [e]))
    clear hl
    go_enter Tryz.func56, Tryz.ntmps56
    go_wp2_with fail
    go_ret
    exact ⟨by rw [HF.out]; rfl, Below.refl _ _⟩
  rcases HC.out with ⟨_, _, _, hx⟩ | ⟨bx, ox, cap, hva, hn0, hbx, hc⟩
  · have h0 : xs.length = 0 := by rw [hx]; rfl
    have h0' : ys.length = 0 := by omega
    have HF : Hid (sameB xs ys = true) := by show _ = _; refine decide_eq_true ?_; rw [hx, List.eq_nil_of_length_eq_zero h0']
    rw [h0, h0']
    clear hl h0 h0' hx HC HD
    go_enter Tryz.func56, Tryz.ntmps56
    go_wp2_with fail
    go_loop [5] (fun i => i = .int .i64 0) (fun _ => 0)
    case atStart => rfl
    case round =>
      subst hrel
      go_wp2_with fail
      go_ret
      exact ⟨by rw [HF.out]; rfl, Below.refl _ _⟩
  rcases HD.out with ⟨_, _, _, hy⟩ | ⟨by', oy, cap', hua, hn0', hby, hd⟩
  · rw [hy] at hl; rw [hl] at hn0; cases hn0
  have ha0 : a0 = some ⟨bx, ox, none⟩ := by injection hva
  have ha1 : a1 = some ⟨by', oy, none⟩ := by injection hua
  subst ha0 ha1
  have HX := Lib.hid hc
  have HY := Lib.hid hd
  have q : ((xs.length : Int) != (ys.length : Int)) = false := by simp; omega
  have HL := Lib.hid hl
  rw [← hl]
  rw [← hl] at q
  clear hc hd hva hua hl HC HD
  go_enter Tryz.func56, Tryz.ntmps56
  go_wp2_with fail
  go_loopw [5] (fun i wr => SmRel xs ys w i wr) (fun i _ => xs.length - (intOf i).toNat)
  case atStart => exact ⟨0, Nat.zero_le _, rfl, rfl, Below.refl _ _⟩
  case round =>
    obtain ⟨k, hk, rfl, heq, hb⟩ := hrel
    have HQ := Lib.hid heq
    clear heq
    by_cases hlt : k < xs.length
    · have hlt' : k < ys.length := by have := HL.out; omega
      have i0 : (0 : Int) ≤ (k : Int) := by omega
      have i1 : (k : Int) < (xs.length : Int) := by omega
      obtain ⟨g0, g1, g2, g3, g4⟩ := HX.out k hlt
      obtain ⟨f0, f1, f2, f3, f4⟩ := HY.out k hlt'
      have c0 := (hb.cell (p := ⟨bx, ox + k * 5, none⟩) hbx).trans g0
      have c1 := (hb.cell (p := ⟨bx, ox + k * 5 + 1, none⟩) hbx).trans g1
      have c2 := (hb.cell (p := ⟨bx, ox + k * 5 + 2, none⟩) hbx).trans g2
      have c3 := (hb.cell (p := ⟨bx, ox + k * 5 + 3, none⟩) hbx).trans g3
      have c4 := (hb.cell (p := ⟨bx, ox + k * 5 + 4, none⟩) hbx).trans g4
      have d0 := (hb.cell (p := ⟨by', oy + k * 5, none⟩) hby).trans f0
      have d1 := (hb.cell (p := ⟨by', oy + k * 5 + 1, none⟩) hby).trans f1
      have d2 := (hb.cell (p := ⟨by', oy + k * 5 + 2, none⟩) hby).trans f2
      have d3 := (hb.cell (p := ⟨by', oy + k * 5 + 3, none⟩) hby).trans f3
      have d4 := (hb.cell (p := ⟨by', oy + k * 5 + 4, none⟩) hby).trans f4
      have HT := Lib.hid (List.take_succ_eq_append_getElem hlt)
      have HT' := Lib.hid (List.take_succ_eq_append_getElem hlt')
      have HG : Hid (xs = ys → xs[k] = ys[k]) := by intro e; subst e; rfl
      obtain ⟨⟨o, ⟨a, b, c, p⟩⟩, hxe⟩ : ∃ x, xs[k] = x := ⟨_, rfl⟩
      obtain ⟨⟨o', ⟨a', b', c', p'⟩⟩, hye⟩ : ∃ y, ys[k] = y := ⟨_, rfl⟩
      rw [hxe] at c0 c1 c2 c3 c4 HG HT
      rw [hye] at d0 d1 d2 d3 d4 HG HT'
      clear g0 g1 g2 g3 g4 f0 f1 f2 f3 f4 hxe hye
      by_cases he : o = o' ∧ a = a' ∧ b = b' ∧ c = c' ∧ p = p'
      · have r1 : ∀ W, (Op.equalIn 10000 100 (.agg #[.int .i64 o, .int .i64 a, .int .i64 b, .int .i64 c, .string p]) (.agg #[.int .i64 o', .int .i64 a', .int .i64 b', .int .i64 c', .string p'])).run Tryz.prog W = .ok true W := fun W => bnd_eq _ _ _ _ _ _ _ _ _ _ true (decide_eq_true he).symm W
        have HEe := Lib.hid he
        clear he
        go_wp2_with fail
        go_quiet (fail)
        go_wp2_with fail
        go_roundw
        case rel =>
          refine ⟨k + 1, hlt, by go_num, ?_, below_drewN hb _⟩
          obtain ⟨h0, h1, h2, h3, h4⟩ := HEe.out
          rw [HT.out, HT'.out, HQ.out, h0, h1, h2, h3, h4]
        case measure => simp [intOf]; omega
      · have r1 : ∀ W, (Op.equalIn 10000 100 (.agg #[.int .i64 o, .int .i64 a, .int .i64 b, .int .i64 c, .string p]) (.agg #[.int .i64 o', .int .i64 a', .int .i64 b', .int .i64 c', .string p'])).run Tryz.prog W = .ok false W := fun W => bnd_eq _ _ _ _ _ _ _ _ _ _ false (decide_eq_false he).symm W
        have HF : Hid (sameB xs ys = false) := by
          show _ = _
          refine decide_eq_false (fun e => he ?_)
          have := HG.out e
          injection this with h0 h1
          injection h1 with h1 h2 h3 h4
          exact ⟨h0, h1, h2, h3, h4⟩
        clear he
        go_wp2_with fail
        go_quiet (fail)
        go_wp2_with fail
        go_ret
        exact ⟨by rw [HF.out]; rfl, below_drewN hb _⟩
    · have q2 : decide (k < xs.length) = false := decide_eq_false hlt
      have HF : Hid (sameB xs ys = true) := by
        show _ = _
        refine decide_eq_true ?_
        have h := HQ.out
        have hl := HL.out
        rw [List.take_of_length_le (by omega), List.take_of_length_le (by omega)] at h
        exact h
      clear hlt
      go_wp2_with fail
      go_ret
      exact ⟨by rw [HF.out]; rfl, hb⟩
end Go.Proofs.YtllkiedikjgkbaaGreatDoor

namespace Go
open Go.RowKit
/-- two offers that hold the same, wherever their needs lie -/
def SimO (o o' : DOff) : Prop := o.v = o'.v ∧ o.y = o'.y ∧ o.ns.map Prod.fst = o'.ns.map Prod.fst
theorem SimO.refl (o : DOff) : SimO o o := ⟨rfl, rfl, rfl⟩
/-- what the region looks at -/
def NdS (b1 o1 : Nat) (v1 : Value) (b2 o2 : Nat) (v2 : Value) (b3 o3 : Nat) (v3 : Value) (b4 o4 : Nat) (v4 : Value) (A : ByteArray) (w0 W : World) : Prop :=
  W.cell? ⟨b1, o1, none⟩ = some v1 ∧ W.cell? ⟨b2, o2, none⟩ = some v2 ∧ W.cell? ⟨b3, o3, none⟩ = some (.string A) ∧ W.cell? ⟨b3, o3 + 1, none⟩ = some v3 ∧ W.cell? ⟨b4, o4, none⟩ = some (.string A) ∧ W.cell? ⟨b4, o4 + 1, none⟩ = some v4 ∧ Below w0.heap.size w0 W
theorem NdS.on {b1 o1 : Nat} {v1 : Value} {b2 o2 : Nat} {v2 : Value} {b3 o3 : Nat} {v3 : Value} {b4 o4 : Nat} {v4 : Value} {A : ByteArray} {w0 : World} : ∀ W W', NdS b1 o1 v1 b2 o2 v2 b3 o3 v3 b4 o4 v4 A w0 W → Below W.heap.size W W' → NdS b1 o1 v1 b2 o2 v2 b3 o3 v3 b4 o4 v4 A w0 W' :=
  fun _ _ ⟨h0, h1, h2, h3, h4, h5, h6⟩ hb => ⟨cell_on h0 hb, cell_on h1 hb, cell_on h2 hb, cell_on h3 hb, cell_on h4 hb, cell_on h5 hb, below_then h6 hb⟩
def SoRel (n : Nat) (w : World) (i : Value) (wr : World) : Prop := ∃ k : Nat, k ≤ n ∧ i = .int .i64 (k : Int) ∧ Below w.heap.size w wr
end Go
namespace Go.Proofs.YtllkiedikjgkbaaGreatDoor
open Go.RowKit
set_option maxRecDepth 100000 in
set_option maxHeartbeats 8000000 in
theorem rsameO_any (v u : Value) (os ps : List DOff) (w : World) (hv : Offs w v os) (hu : Offs w u ps) (hl : ps.length = os.length) (hs : ∀ k (h : k < os.length) (h' : k < ps.length), SimO os[k] ps[k]) (hos : os.length ≤ 1000000) :
    Calls Tryz.prog 21 #[v, u] w fun e w' => e = .returned (.bool true) ∧ Below w.heap.size w w' := by
  obtain ⟨a0, cap0, rfl⟩ := hv.1.len.2
  obtain ⟨a1, cap1, rfl⟩ := hu.1.len.2
  have HV := Lib.hid hv
  have HU := Lib.hid hu
  have HS := Lib.hid hs
  have q3 : ((os.length : Int) != (os.length : Int)) = false := by simp
  obtain ⟨n, hn⟩ : ∃ n, os.length = n := ⟨_, rfl⟩
  have hn2 : ps.length = n := by rw [hl, hn]
  have HN1 := Lib.hid hn
  have HN2 := Lib.hid hn2
  clear hv hu hs hl
  rw [hn, hn2]
  rw [hn] at q3 hos
  clear hn hn2
  go_enter Tryz.func21, Tryz.ntmps21
  go_wp2_with fail
  go_loopw [5] (fun i wr => SoRel n w i wr) (fun i _ => n - (intOf i).toNat)
  case atStart => exact ⟨0, Nat.zero_le _, rfl, Below.refl _ _⟩
  case round =>
    obtain ⟨k, hk, rfl, hb⟩ := hrel
    by_cases hlt : k < n
    · have i0 : (0 : Int) ≤ (k : Int) := by omega
      have i1 : (k : Int) < (n : Int) := by omega
      have hlx : k < os.length := by rw [HN1.out]; exact hlt
      have hly : k < ps.length := by rw [HN2.out]; exact hlt
      obtain ⟨bx, ox, rfl, hbx, c0, c1, c2, c3, c4, c5⟩ := HV.out.1.at' hb hlx
      obtain ⟨by', oy, rfl, hby, d0, d1, d2, d3, d4, d5⟩ := HU.out.1.at' hb hly
      have hsm := HS.out k hlx hly
      have hxm := HV.out.2 _ (List.getElem_mem hlx)
      have hym := HU.out.2 _ (List.getElem_mem hly)
      obtain ⟨⟨xv, xy, xs, xa, xc⟩, hxe⟩ : ∃ x, os[k] = x := ⟨_, rfl⟩
      obtain ⟨⟨yv, yy, ys, ya, yc⟩, hye⟩ : ∃ x, ps[k] = x := ⟨_, rfl⟩
      rw [hxe] at c0 c1 c2 c3 c4 c5 hsm hxm
      rw [hye] at d0 d1 d2 d3 d4 d5 hsm hym
      obtain ⟨h1, h2, h3⟩ := hsm
      simp only at h1 h2 h3
      subst h1 h2
      have hlen : ys.length = xs.length := by have := congrArg List.length h3; simpa using this.symm
      obtain ⟨m, hm⟩ : ∃ m, xs.length = m := ⟨_, rfl⟩
      have hm2 : ys.length = m := by rw [hlen, hm]
      have hxw := hxm.1
      have hyw := hym.1
      simp only [DOff.nv] at c5 d5 hxw hyw
      rw [hm] at c5
      rw [hm2] at d5
      have HX := Lib.hid hxw
      have HY := Lib.hid hyw
      have H3 := Lib.hid h3
      have HM1 := Lib.hid hm
      have HM2 := Lib.hid hm2
      have q4 : ((m : Int) != (m : Int)) = false := by simp
      have hmx : m ≤ 9223372036854775807 := by
        have := hxw.len.1
        unfold maxLen at this; omega
      have q5 : (xy != xy) = false := by simp
      have r1 := fun W => ver_eq xv.a xv.b xv.c xv.p xv.a xv.b xv.c xv.p true (by simp) W
      clear hxe hye hxm hym hxw hyw h3 hm hm2 hlen
      go_wp2_with fail
      go_quiet (fail)
      go_wp2_with fail
      go_loopw [6] (fun i wy => SoRel m wr i wy) (fun i _ => m - (intOf i).toNat)
      case atStart => exact ⟨0, Nat.zero_le _, rfl, below_drewN (Below.refl _ _) _⟩
      case round =>
        obtain ⟨j, hj, rfl, hb3⟩ := hrel
        have hb5 := below_then hb hb3
        have k0 := cell_on c5 hb3
        have k1 := cell_on d5 hb3
        by_cases hlt2 : j < m
        · have j0 : (0 : Int) ≤ (j : Int) := by omega
          have j1 : (j : Int) < (m : Int) := by omega
          have hjx : j < xs.length := by rw [HM1.out]; exact hlt2
          have hjy : j < ys.length := by rw [HM2.out]; exact hlt2
          obtain ⟨bn, on, rfl, hbn, k2, k3⟩ := HX.out.at' hb5 hjx
          obtain ⟨bp, op, rfl, hbp, k4, k5⟩ := HY.out.at' hb5 hjy
          have hxe : xs[j].1 = ys[j].1 := by
            have h : (xs.map Prod.fst)[j]? = (ys.map Prod.fst)[j]? := by rw [H3.out]
            rw [List.getElem?_map, List.getElem?_map, List.getElem?_eq_getElem hjx, List.getElem?_eq_getElem hjy] at h
            simpa using h
          obtain ⟨hr1, ra, rcap, hr2⟩ := HX.out.2 _ (List.getElem_mem hjx)
          obtain ⟨hs1, sa, scap, hs2⟩ := HY.out.2 _ (List.getElem_mem hjy)
          rw [← hxe] at k4 hs1 hs2
          obtain ⟨N, hN⟩ : ∃ N, xs[j].1 = N := ⟨_, rfl⟩
          rw [hN] at k2 k4 hr1 hr2 hs1 hs2
          rw [hr2] at k3 hr1
          rw [hs2] at k5 hs1
          obtain ⟨A, hA⟩ : ∃ A, S N.name = A := ⟨_, rfl⟩
          rw [hA] at k2 k4
          obtain ⟨rn, hrn⟩ : ∃ n, N.bs.length = n := ⟨_, rfl⟩
          rw [hrn] at k3 k5 hr1 hs1
          have HR1 := Lib.hid hr1
          have HS1 := Lib.hid hs1
          have HRn := Lib.hid hrn
          clear hxe hN hA hrn hr1 hr2 hs1 hs2
          go_upto_region 11 with fail
          go_cut [7, 8] from 69 to 84 (fun x y wy => ∃ p q, x = .pointer (some ⟨p, 0, none⟩) ∧ y = .pointer (some ⟨q, 0, none⟩) ∧ wy.cell? ⟨p, 0, none⟩ = some (.string A) ∧ wy.cell? ⟨p, 1, none⟩ = some (.slice ra rn rcap) ∧ wy.cell? ⟨q, 0, none⟩ = some (.string A) ∧ wy.cell? ⟨q, 1, none⟩ = some (.slice sa rn scap) ∧ Below wr.heap.size wr wy)
          case first =>
            have hst : NdS bx (ox + k * 6 + 5) (.slice (some ⟨bn, on, none⟩) m xc) by' (oy + k * 6 + 5) (.slice (some ⟨bp, op, none⟩) m yc) bn (on + j * 2) (.slice ra rn rcap) bp (op + j * 2) (.slice sa rn scap) A wr wr.drew := ⟨cell_on k0 (Below.refl _ _).drew, cell_on k1 (Below.refl _ _).drew, cell_on k2 (Below.refl _ _).drew, cell_on k3 (Below.refl _ _).drew, cell_on k4 (Below.refl _ _).drew, cell_on k5 (Below.refl _ _).drew, (Below.refl _ _).drew⟩
            have hst1 : NdS bx (ox + k * 6 + 5) (.slice (some ⟨bn, on, none⟩) m xc) by' (oy + k * 6 + 5) (.slice (some ⟨bp, op, none⟩) m yc) bn (on + j * 2) (.slice ra rn rcap) bp (op + j * 2) (.slice sa rn scap) A wr wr := ⟨k0, k1, k2, k3, k4, k5, Below.refl _ _⟩
            go_wp2_with fail
            refine wp_region_held_drew (S := (fun W => NdS bx (ox + k * 6 + 5) (.slice (some ⟨bn, on, none⟩) m xc) by' (oy + k * 6 + 5) (.slice (some ⟨bp, op, none⟩) m yc) bn (on + j * 2) (.slice ra rn rcap) bp (op + j * 2) (.slice sa rn scap) A wr W)) (by kernel_rfl) (hst) (fun hHeld => ?_)
            refine wpAnyH_take (i := 0) (v := ?_) rfl (by kernel_rfl) (by kernel_rfl) (by kernel_rfl) (fun _ _ _ h => h) (Or.inl ⟨by kernel_rfl, ?_⟩) hHeld ?_
            rotate_left
            · (rintro W ⟨k0, k1, k2, k3, k4, k5, _⟩; go_simp; (try with_reducible rfl))
            (try simp only [Act.put, List.getElem_toArray, List.getElem_cons_zero, List.setIfInBounds_toArray, List.set_cons_succ, List.set_cons_zero])
            refine wpAnyH_take (i := 1) (v := ?_) rfl (by kernel_rfl) (by kernel_rfl) (by kernel_rfl) (fun _ _ _ h => h) (Or.inl ⟨by kernel_rfl, ?_⟩) hHeld ?_
            rotate_left
            · (rintro W ⟨k0, k1, k2, k3, k4, k5, _⟩; go_simp; (try with_reducible rfl))
            (try simp only [Act.put, List.getElem_toArray, List.getElem_cons_succ, List.getElem_cons_zero, List.setIfInBounds_toArray, List.set_cons_succ, List.set_cons_zero])
            refine wpAnyH_take (i := 2) (v := ?_) rfl (by kernel_rfl) (by kernel_rfl) (by kernel_rfl) (fun _ _ _ h => h) (Or.inl ⟨by kernel_rfl, ?_⟩) hHeld ?_
            rotate_left
            · (rintro W ⟨k0, k1, k2, k3, k4, k5, _⟩; go_simp; (try with_reducible rfl))
            (try simp only [Act.put, List.getElem_toArray, List.getElem_cons_succ, List.getElem_cons_zero, List.setIfInBounds_toArray, List.set_cons_succ, List.set_cons_zero])
            refine wpAnyH_take (i := 3) (v := ?_) rfl (by kernel_rfl) (by kernel_rfl) (by kernel_rfl) (fun _ _ _ h => h) (Or.inl ⟨by kernel_rfl, ?_⟩) hHeld ?_
            rotate_left
            · (rintro W ⟨k0, k1, k2, k3, k4, k5, _⟩; go_simp; (try with_reducible rfl))
            (try simp only [Act.put, List.getElem_toArray, List.getElem_cons_succ, List.getElem_cons_zero, List.setIfInBounds_toArray, List.set_cons_succ, List.set_cons_zero])
            refine wpAnyH_take (i := 4) (v := ?_) rfl (by kernel_rfl) (by kernel_rfl) (by kernel_rfl) (fun _ _ _ h => h) (Or.inl ⟨by kernel_rfl, ?_⟩) hHeld ?_
            rotate_left
            · (rintro W ⟨k0, k1, k2, k3, k4, k5, _⟩; go_simp; (try with_reducible rfl))
            (try simp only [Act.put, List.getElem_toArray, List.getElem_cons_succ, List.getElem_cons_zero, List.setIfInBounds_toArray, List.set_cons_succ, List.set_cons_zero])
            refine wpAnyH_take (i := 5) (v := ?_) rfl (by kernel_rfl) (by kernel_rfl) (by kernel_rfl) (fun _ _ _ h => h) (Or.inl ⟨by kernel_rfl, ?_⟩) hHeld ?_
            rotate_left
            · (rintro W ⟨k0, k1, k2, k3, k4, k5, _⟩; go_simp; (try with_reducible rfl))
            (try simp only [Act.put, List.getElem_toArray, List.getElem_cons_succ, List.getElem_cons_zero, List.setIfInBounds_toArray, List.set_cons_succ, List.set_cons_zero])
            refine wpAnyH_take (i := 6) (v := ?_) rfl (by kernel_rfl) (by kernel_rfl) (by kernel_rfl) (fun _ _ _ h => h) (Or.inl ⟨by kernel_rfl, ?_⟩) hHeld ?_
            rotate_left
            · (rintro W ⟨k0, k1, k2, k3, k4, k5, _⟩; go_simp; (try with_reducible rfl))
            (try simp only [Act.put, List.getElem_toArray, List.getElem_cons_succ, List.getElem_cons_zero, List.setIfInBounds_toArray, List.set_cons_succ, List.set_cons_zero])
            refine wpAnyH_take (i := 7) (v := ?_) rfl (by kernel_rfl) (by kernel_rfl) (by kernel_rfl) (fun _ _ _ h => h) (Or.inl ⟨by kernel_rfl, ?_⟩) hHeld ?_
            rotate_left
            · (rintro W ⟨k0, k1, k2, k3, k4, k5, _⟩; go_simp; (try with_reducible rfl))
            (try simp only [Act.put, List.getElem_toArray, List.getElem_cons_succ, List.getElem_cons_zero, List.setIfInBounds_toArray, List.set_cons_succ, List.set_cons_zero])
            refine wpAnyH_take (i := 8) (v := ?_) rfl (by kernel_rfl) (by kernel_rfl) (by kernel_rfl) (fun _ _ _ h => h) (Or.inl ⟨by kernel_rfl, ?_⟩) hHeld ?_
            rotate_left
            · (rintro W ⟨k0, k1, k2, k3, k4, k5, _⟩; go_simp; (try with_reducible rfl))
            (try simp only [Act.put, List.getElem_toArray, List.getElem_cons_succ, List.getElem_cons_zero, List.setIfInBounds_toArray, List.set_cons_succ, List.set_cons_zero])
            refine wpAnyH_take (i := 9) (v := ?_) rfl (by kernel_rfl) (by kernel_rfl) (by kernel_rfl) (fun _ _ _ h => h) (Or.inl ⟨by kernel_rfl, ?_⟩) hHeld ?_
            rotate_left
            · (rintro W ⟨k0, k1, k2, k3, k4, k5, _⟩; go_simp; (try with_reducible rfl))
            (try simp only [Act.put, List.getElem_toArray, List.getElem_cons_succ, List.getElem_cons_zero, List.setIfInBounds_toArray, List.set_cons_succ, List.set_cons_zero])
            refine wpAnyH_take (i := 10) (v := ?_) rfl (by kernel_rfl) (by kernel_rfl) (by kernel_rfl) (fun _ _ _ h => h) (Or.inl ⟨by kernel_rfl, ?_⟩) hHeld ?_
            rotate_left
            · (rintro W ⟨k0, k1, k2, k3, k4, k5, _⟩; go_simp; (try with_reducible rfl))
            (try simp only [Act.put, List.getElem_toArray, List.getElem_cons_succ, List.getElem_cons_zero, List.setIfInBounds_toArray, List.set_cons_succ, List.set_cons_zero])
            refine wpAnyH_take (i := 11) (v := ?_) rfl (by kernel_rfl) (by kernel_rfl) (by kernel_rfl) (fun _ _ _ h => h) (Or.inl ⟨by kernel_rfl, ?_⟩) hHeld ?_
            rotate_left
            · (rintro W ⟨k0, k1, k2, k3, k4, k5, _⟩; go_simp; (try with_reducible rfl))
            (try simp only [Act.put, List.getElem_toArray, List.getElem_cons_succ, List.getElem_cons_zero, List.setIfInBounds_toArray, List.set_cons_succ, List.set_cons_zero])
            refine wpAnyH_take (i := 12) (v := ?_) rfl (by kernel_rfl) (by kernel_rfl) (by kernel_rfl) (fun _ _ _ h => h) (Or.inl ⟨by kernel_rfl, ?_⟩) hHeld ?_
            rotate_left
            · (rintro W ⟨k0, k1, k2, k3, k4, k5, _⟩; go_simp; (try with_reducible rfl))
            (try simp only [Act.put, List.getElem_toArray, List.getElem_cons_succ, List.getElem_cons_zero, List.setIfInBounds_toArray, List.set_cons_succ, List.set_cons_zero])
            refine wpAnyH_take (i := 13) (v := ?_) rfl (by kernel_rfl) (by kernel_rfl) (by kernel_rfl) (fun _ _ _ h => h) (Or.inl ⟨by kernel_rfl, ?_⟩) hHeld ?_
            rotate_left
            · (rintro W ⟨k0, k1, k2, k3, k4, k5, _⟩; go_simp; (try with_reducible rfl))
            (try simp only [Act.put, List.getElem_toArray, List.getElem_cons_succ, List.getElem_cons_zero, List.setIfInBounds_toArray, List.set_cons_succ, List.set_cons_zero])
            refine wpAnyH_take (i := 14) (v := ?_) rfl (by kernel_rfl) (by kernel_rfl) (by kernel_rfl) (fun _ _ _ h => h) (Or.inl ⟨by kernel_rfl, ?_⟩) hHeld ?_
            rotate_left
            · (rintro W ⟨k0, k1, k2, k3, k4, k5, _⟩; go_simp; (try with_reducible rfl))
            (try simp only [Act.put, List.getElem_toArray, List.getElem_cons_succ, List.getElem_cons_zero, List.setIfInBounds_toArray, List.set_cons_succ, List.set_cons_zero])
            refine wpAnyH_take (i := 15) (v := ?_) rfl (by kernel_rfl) (by kernel_rfl) (by kernel_rfl) (fun _ _ _ h => h) (Or.inl ⟨by kernel_rfl, ?_⟩) hHeld ?_
            rotate_left
            · (rintro W ⟨k0, k1, k2, k3, k4, k5, _⟩; go_simp; (try with_reducible rfl))
            (try simp only [Act.put, List.getElem_toArray, List.getElem_cons_succ, List.getElem_cons_zero, List.setIfInBounds_toArray, List.set_cons_succ, List.set_cons_zero])
            refine wpAnyH_ready (rs := [16, 17]) (by kernel_rfl) (by simp) ?_
            refine AllReadyH.cons rfl (fun K hK => ?_) (AllReadyH.cons rfl (fun K hK => ?_) AllReadyH.nil)
            · go_simp
              have g1 := NdS.on _ _ hHeld ((Below.refl _ _).alloc (Nat.le_refl _) (.cells #[.string ⟨#[]⟩, .slice none 0 0] 35))
              refine hK.out _ _ g1 (fun hHeld => ?_)
              clear hK K
              (try simp only [Act.put, List.getElem_toArray, List.getElem_cons_succ, List.getElem_cons_zero, List.setIfInBounds_toArray, List.set_cons_succ, List.set_cons_zero])
              refine wpAnyH_ready (rs := [17]) (by kernel_rfl) (by simp) ?_
              refine AllReadyH.cons rfl (fun K hK => ?_) AllReadyH.nil
              go_simp
              have g2 := NdS.on _ _ hHeld ((Below.refl _ _).alloc (Nat.le_refl _) (.cells #[.string ⟨#[]⟩, .slice none 0 0] 35))
              refine hK.out _ _ g2 (fun hHeld => ?_)
              clear hK K
              (try simp only [Act.put, List.getElem_toArray, List.getElem_cons_succ, List.getElem_cons_zero, List.setIfInBounds_toArray, List.set_cons_succ, List.set_cons_zero])
              refine wpAnyH_ready (rs := [18]) (by kernel_rfl) (by simp) ?_
              refine AllReadyH.cons rfl (fun K hK => ?_) AllReadyH.nil
              go_simp
              have h18 : Below wr.heap.size wr ((wr.alloc (.cells #[.string A, .slice ra rn rcap] 35)).alloc (.cells #[.string ⟨#[]⟩, .slice none 0 0] 35)).drew := (((Below.refl wr.heap.size wr).alloc (Nat.le_refl _) (.cells #[.string A, .slice ra rn rcap] 35)).alloc (by simp) (.cells #[.string ⟨#[]⟩, .slice none 0 0] 35)).drew
              refine hK.out _ _ (NdS.on _ _ hst1 h18) (fun hHeld => ?_)
              clear hK K
              (try simp only [Act.put, List.getElem_toArray, List.getElem_cons_succ, List.getElem_cons_zero, List.setIfInBounds_toArray, List.set_cons_succ, List.set_cons_zero])
              refine wpAnyH_ready (rs := [19]) (by kernel_rfl) (by simp) ?_
              refine AllReadyH.cons rfl (fun K hK => ?_) AllReadyH.nil
              go_simp
              have h19 : Below wr.heap.size wr ((wr.alloc (.cells #[.string A, .slice ra rn rcap] 35)).alloc (.cells #[.string A, .slice sa rn scap] 35)).drew := (((Below.refl wr.heap.size wr).alloc (Nat.le_refl _) (.cells #[.string A, .slice ra rn rcap] 35)).alloc (by simp) (.cells #[.string A, .slice sa rn scap] 35)).drew
              refine hK.out _ _ (NdS.on _ _ hst1 h19) (fun hHeld => ?_)
              clear hK K
              (try simp only [Act.put, List.getElem_toArray, List.getElem_cons_succ, List.getElem_cons_zero, List.setIfInBounds_toArray, List.set_cons_succ, List.set_cons_zero])
              refine wpAnyH_done (by kernel_rfl) ?_ _
              have hd : Below ((wr.alloc (.cells #[.string A, .slice ra rn rcap] 35)).alloc (.cells #[.string A, .slice sa rn scap] 35)).heap.size ((wr.alloc (.cells #[.string A, .slice ra rn rcap] 35)).alloc (.cells #[.string A, .slice sa rn scap] 35)) ((wr.alloc (.cells #[.string A, .slice ra rn rcap] 35)).alloc (.cells #[.string A, .slice sa rn scap] 35)).drew := (Below.refl _ _).drew
              have t0 := two_cells hd 0
              have t1 := two_cells hd 1
              go_wp2_with fail
              go_meet
              case rel => exact ⟨_, _, rfl, rfl, t0.1, t1.1, t0.2, t1.2, h19⟩
            · go_simp
              have g1 := NdS.on _ _ hHeld ((Below.refl _ _).alloc (Nat.le_refl _) (.cells #[.string ⟨#[]⟩, .slice none 0 0] 35))
              refine hK.out _ _ g1 (fun hHeld => ?_)
              clear hK K
              (try simp only [Act.put, List.getElem_toArray, List.getElem_cons_succ, List.getElem_cons_zero, List.setIfInBounds_toArray, List.set_cons_succ, List.set_cons_zero])
              refine wpAnyH_ready (rs := [16]) (by kernel_rfl) (by simp) ?_
              refine AllReadyH.cons rfl (fun K hK => ?_) AllReadyH.nil
              go_simp
              have g2 := NdS.on _ _ hHeld ((Below.refl _ _).alloc (Nat.le_refl _) (.cells #[.string ⟨#[]⟩, .slice none 0 0] 35))
              refine hK.out _ _ g2 (fun hHeld => ?_)
              clear hK K
              (try simp only [Act.put, List.getElem_toArray, List.getElem_cons_succ, List.getElem_cons_zero, List.setIfInBounds_toArray, List.set_cons_succ, List.set_cons_zero])
              refine wpAnyH_ready (rs := [18]) (by kernel_rfl) (by simp) ?_
              refine AllReadyH.cons rfl (fun K hK => ?_) AllReadyH.nil
              go_simp
              have h18 : Below wr.heap.size wr ((wr.alloc (.cells #[.string ⟨#[]⟩, .slice none 0 0] 35)).alloc (.cells #[.string A, .slice ra rn rcap] 35)).drew := (((Below.refl wr.heap.size wr).alloc (Nat.le_refl _) (.cells #[.string ⟨#[]⟩, .slice none 0 0] 35)).alloc (by simp) (.cells #[.string A, .slice ra rn rcap] 35)).drew
              refine hK.out _ _ (NdS.on _ _ hst1 h18) (fun hHeld => ?_)
              clear hK K
              (try simp only [Act.put, List.getElem_toArray, List.getElem_cons_succ, List.getElem_cons_zero, List.setIfInBounds_toArray, List.set_cons_succ, List.set_cons_zero])
              refine wpAnyH_ready (rs := [19]) (by kernel_rfl) (by simp) ?_
              refine AllReadyH.cons rfl (fun K hK => ?_) AllReadyH.nil
              go_simp
              have h19 : Below wr.heap.size wr ((wr.alloc (.cells #[.string A, .slice sa rn scap] 35)).alloc (.cells #[.string A, .slice ra rn rcap] 35)).drew := (((Below.refl wr.heap.size wr).alloc (Nat.le_refl _) (.cells #[.string A, .slice sa rn scap] 35)).alloc (by simp) (.cells #[.string A, .slice ra rn rcap] 35)).drew
              refine hK.out _ _ (NdS.on _ _ hst1 h19) (fun hHeld => ?_)
              clear hK K
              (try simp only [Act.put, List.getElem_toArray, List.getElem_cons_succ, List.getElem_cons_zero, List.setIfInBounds_toArray, List.set_cons_succ, List.set_cons_zero])
              refine wpAnyH_done (by kernel_rfl) ?_ _
              have hd : Below ((wr.alloc (.cells #[.string A, .slice sa rn scap] 35)).alloc (.cells #[.string A, .slice ra rn rcap] 35)).heap.size ((wr.alloc (.cells #[.string A, .slice sa rn scap] 35)).alloc (.cells #[.string A, .slice ra rn rcap] 35)) ((wr.alloc (.cells #[.string A, .slice sa rn scap] 35)).alloc (.cells #[.string A, .slice ra rn rcap] 35)).drew := (Below.refl _ _).drew
              have t0 := two_cells hd 0
              have t1 := two_cells hd 1
              go_wp2_with fail
              go_meet
              case rel => exact ⟨_, _, rfl, rfl, t0.2, t1.2, t0.1, t1.1, h19⟩
          case rest =>
            obtain ⟨p, q, rfl, rfl, e0, e1, f0, f1, hb6⟩ := hcut
            have hb7 := below_then hb3 hb6
            have hb8 := below_then hb5 hb6
            have HC := Lib.hid (same_any _ _ N.bs N.bs wc (HR1.out.below hb8 (Nat.le_refl _)) ⟨ra, rcap, by rw [HRn.out]⟩ (HS1.out.below hb8 (Nat.le_refl _)) ⟨sa, scap, by rw [HRn.out]⟩ (by have := HR1.out.cases.1; unfold maxLen at this; omega))
            rw [show sameB N.bs N.bs = true from decide_eq_true rfl] at HC
            have e4 : (A.toList == A.toList) = true := beq_self_eq_true _
            have e5 : (A.toList != A.toList) = false := by simp
            have z1 := cell_lt e0
            have z2 := cell_lt f0
            go_wp2_with fail
            refine HC.out.mono ?_
            rintro e w5 ⟨rfl, hb9⟩
            have hb10 := below_then hb7 hb9
            clear e0 e1 f0 f1 hb9
            go_wp2_with fail
            go_roundw
            case rel => exact ⟨j + 1, hlt2, by go_num, hb10⟩
            case measure => simp [intOf]; omega
        · have q6 : decide (j < m) = false := decide_eq_false hlt2
          clear hlt2
          go_wp2_with fail
          go_roundw
          case rel => exact ⟨k + 1, hlt, by go_num, hb5⟩
          case measure => simp [intOf]; omega
    · have q5 : decide (k < n) = false := decide_eq_false hlt
      clear hlt
      go_wp2_with fail
      go_ret
      exact ⟨rfl, hb⟩
end Go.Proofs.YtllkiedikjgkbaaGreatDoor

namespace Go
open Go.RowKit
/-- two packages that hold the same -/
def SimP (p q : DPack) : Prop := p.name = q.name ∧ q.os.length = p.os.length ∧ ∀ k (h : k < p.os.length) (h' : k < q.os.length), SimO p.os[k] q.os[k]
end Go
namespace Go.Proofs.YtllkiedikjgkbaaGreatDoor
open Go.RowKit
set_option maxRecDepth 100000 in
set_option maxHeartbeats 4000000 in
theorem rsameP_any (v u : Value) (ps qs : List DPack) (w : World) (hv : Packs w v ps) (hu : Packs w u qs) (hl : qs.length = ps.length) (hs : ∀ k (h : k < ps.length) (h' : k < qs.length), SimP ps[k] qs[k]) (hos : ∀ p ∈ ps, p.os.length ≤ 1000000) :
    Calls Tryz.prog 19 #[v, u] w fun e w' => e = .returned (.bool true) ∧ Below w.heap.size w w' := by
  obtain ⟨hmx, a0, cap0, rfl⟩ := hv.len
  obtain ⟨_, a1, cap1, rfl⟩ := hu.len
  have hmx2 : ps.length ≤ 9223372036854775807 := Nat.le_trans hmx (by decide)
  have HV := Lib.hid hv
  have HU := Lib.hid hu
  have HS := Lib.hid hs
  have HOs := Lib.hid hos
  have q3 : ((ps.length : Int) != (ps.length : Int)) = false := by simp
  obtain ⟨n, hn⟩ : ∃ n, ps.length = n := ⟨_, rfl⟩
  have hn2 : qs.length = n := by rw [hl, hn]
  have HN1 := Lib.hid hn
  have HN2 := Lib.hid hn2
  clear hv hu hs hl hmx hos
  rw [hn, hn2]
  rw [hn] at q3 hmx2
  clear hn hn2
  go_enter Tryz.func19, Tryz.ntmps19
  go_wp2_with fail
  go_loopw [5] (fun i wr => SoRel n w i wr) (fun i _ => n - (intOf i).toNat)
  case atStart => exact ⟨0, Nat.zero_le _, rfl, Below.refl _ _⟩
  case round =>
    obtain ⟨k, hk, rfl, hb⟩ := hrel
    by_cases hlt : k < n
    · have i0 : (0 : Int) ≤ (k : Int) := by omega
      have i1 : (k : Int) < (n : Int) := by omega
      have hlx : k < ps.length := by rw [HN1.out]; exact hlt
      have hly : k < qs.length := by rw [HN2.out]; exact hlt
      obtain ⟨bx, ox, rfl, hbx, c0, c1⟩ := HV.out.at' hb hlx
      obtain ⟨by', oy, rfl, hby, d0, d1⟩ := HU.out.at' hb hly
      have hsm := HS.out k hlx hly
      have hxm := (HV.out.2 _ (List.getElem_mem hlx)).1
      have hym := (HU.out.2 _ (List.getElem_mem hly)).1
      have hxo := HOs.out _ (List.getElem_mem hlx)
      obtain ⟨⟨xn, xo, xa, xc⟩, hxe⟩ : ∃ x, ps[k] = x := ⟨_, rfl⟩
      obtain ⟨⟨yn, yo, ya, yc⟩, hye⟩ : ∃ x, qs[k] = x := ⟨_, rfl⟩
      rw [hxe] at c0 c1 hsm hxm hxo
      rw [hye] at d0 d1 hsm hym
      obtain ⟨h1, h2, h3⟩ := hsm
      simp only [DPack.ov] at c0 c1 d0 d1 h1 h2 h3 hxm hym hxo
      subst h1
      have e4 : (xn.toList == xn.toList) = true := beq_self_eq_true _
      have e5 : (xn.toList != xn.toList) = false := by simp
      have HC := Lib.hid (rsameO_any _ _ xo yo wr.drew (hxm.below hb.drew (Nat.le_refl _)) (hym.below hb.drew (Nat.le_refl _)) h2 h3 hxo)
      clear hxe hye hxm hym h2 h3 hxo
      go_wp2_with fail
      refine region_still_tail 22 (by kernel_rfl) (by kernel_rfl) ?_
      simp only [List.take_succ_cons, List.take_zero, List.drop_succ_cons, List.drop_zero]
      repeat still_step
      refine wpStill_nil ?_
      go_wp2_with fail
      refine HC.out.mono ?_
      rintro e w5 ⟨rfl, hb5⟩
      have hb6 := below_then hb.drew hb5
      clear c0 c1 d0 d1 hb5
      go_wp2_with fail
      go_roundw
      case rel => exact ⟨k + 1, hlt, by go_num, hb6⟩
      case measure => simp [intOf]; omega
    · have q5 : decide (k < n) = false := decide_eq_false hlt
      clear hlt
      go_wp2_with fail
      go_ret
      exact ⟨rfl, hb⟩
end Go.Proofs.YtllkiedikjgkbaaGreatDoor

namespace Go
/-- a name of bytes -/
abbrev Nam := List UInt8
/-- steps from one to another -/
inductive Goes {α : Type} (E : α → α → Prop) : α → α → Prop
  | refl (a : α) : Goes E a a
  | tail {a b c : α} : Goes E a b → E b c → Goes E a c
theorem Goes.trans {α : Type} {E : α → α → Prop} {a b c : α} (h : Goes E a b) (h' : Goes E b c) : Goes E a c := by
  induction h' with
  | refl => exact h
  | tail _ e ih => exact .tail ih e
theorem Goes.head {α : Type} {E : α → α → Prop} {a b c : α} (e : E a b) (h : Goes E b c) : Goes E a c := (Goes.tail (.refl a) e).trans h
/-- what a search from one has added to a list -/
structure Grew {α : Type} (E : α → α → Prop) (xs0 bs : List α) (nm : α) : Prop where
  ext : ∃ cs, bs = xs0 ++ cs ∧ (∀ c ∈ cs, Goes E nm c) ∧ ∀ c ∈ cs, ∀ d, E c d → d ∈ bs
  mem : nm ∈ bs
/-- a search under way: the one that was added, and some that are behind it -/
structure Grows {α : Type} (E : α → α → Prop) (xs0 bs : List α) (nm : α) : Prop where
  ext : ∃ cs, bs = xs0 ++ nm :: cs ∧ (∀ c ∈ cs, Goes E nm c) ∧ ∀ c ∈ cs, ∀ d, E c d → d ∈ bs
section
variable {α : Type} {E : α → α → Prop} {xs0 bs cs : List α} {nm d : α}
theorem Grew.there (h : nm ∈ xs0) : Grew E xs0 xs0 nm := ⟨⟨[], by simp, by simp, by simp⟩, h⟩
theorem Grows.start (xs0 : List α) (nm : α) : Grows E xs0 (xs0 ++ [nm]) nm := ⟨⟨[], rfl, by simp, by simp⟩⟩
theorem Grew.sub (h : Grew E xs0 bs nm) {x : α} (hx : x ∈ xs0) : x ∈ bs := by
  obtain ⟨cs, rfl, _⟩ := h.ext; exact List.mem_append_left _ hx
theorem Grows.step (h : Grows E xs0 bs nm) (he : E nm d) (h' : Grew E bs cs d) : Grows E xs0 cs nm := by
  obtain ⟨xs, hb, h1, h2⟩ := h.ext
  obtain ⟨ys, hc, h3, h4⟩ := h'.ext
  refine ⟨⟨xs ++ ys, by rw [hc, hb]; simp, fun c hm => ?_, fun c hm e hE => ?_⟩⟩
  · rcases List.mem_append.1 hm with hm | hm
    · exact h1 c hm
    · exact Goes.head he (h3 c hm)
  · rcases List.mem_append.1 hm with hm | hm
    · exact h'.sub (h2 c hm e hE)
    · exact h4 c hm e hE
theorem Grows.done (h : Grows E xs0 bs nm) (ha : ∀ d, E nm d → d ∈ bs) : Grew E xs0 bs nm := by
  obtain ⟨xs, hb, h1, h2⟩ := h.ext
  refine ⟨⟨nm :: xs, hb, fun c hm => ?_, fun c hm d hE => ?_⟩, by rw [hb]; simp⟩
  · rcases List.mem_cons.1 hm with rfl | hm
    · exact .refl _
    · exact h1 c hm
  · rcases List.mem_cons.1 hm with rfl | hm
    · exact ha d hE
    · exact h2 c hm d hE
theorem Grew.len (h : Grew E xs0 bs nm) : xs0.length ≤ bs.length := by
  obtain ⟨cs, rfl, _⟩ := h.ext; simp
theorem Grows.len (h : Grows E xs0 bs nm) : xs0.length < bs.length := by
  obtain ⟨cs, rfl, _⟩ := h.ext; simp
/-- what is reached from some -/
def ReachedL (E : α → α → Prop) (ss : List α) (x : α) : Prop := ∃ s ∈ ss, Goes E s x
/-- a search from several: those that were asked so far -/
structure GrowsAll (E : α → α → Prop) (ss bs : List α) : Prop where
  in_ : ∀ c ∈ bs, ReachedL E ss c
  closed : ∀ c ∈ bs, ∀ d, E c d → d ∈ bs
  all : ∀ s ∈ ss, s ∈ bs
theorem GrowsAll.start : GrowsAll E ([] : List α) [] := ⟨by simp, by simp, by simp⟩
theorem GrowsAll.step {ss : List α} (h : GrowsAll E ss bs) (h' : Grew E bs cs d) : GrowsAll E (ss ++ [d]) cs := by
  obtain ⟨xs, hx, h1, h2⟩ := h'.ext
  refine ⟨fun c hc => ?_, fun c hc e hE => ?_, fun s hs => ?_⟩
  · rw [hx] at hc
    rcases List.mem_append.1 hc with hc | hc
    · obtain ⟨s, hs, hst⟩ := h.in_ c hc
      exact ⟨s, List.mem_append_left _ hs, hst⟩
    · exact ⟨d, by simp, h1 c hc⟩
  · rw [hx] at hc
    rcases List.mem_append.1 hc with hc | hc
    · exact h'.sub (h.closed c hc e hE)
    · exact h2 c hc e hE
  · rcases List.mem_append.1 hs with hs | hs
    · exact h'.sub (h.all s hs)
    · simp at hs; subst hs; exact h'.mem
theorem closed_goes {s x : α} (hc : ∀ c ∈ bs, ∀ d, E c d → d ∈ bs) (hs : s ∈ bs) (h : Goes E s x) : x ∈ bs := by
  induction h with
  | refl => exact hs
  | tail _ e ih => exact hc _ ih _ e
theorem GrowsAll.iff {ss : List α} (h : GrowsAll E ss bs) (x : α) : x ∈ bs ↔ ReachedL E ss x :=
  ⟨h.in_ x, fun ⟨_, hs, hst⟩ => closed_goes h.closed (h.all _ hs) hst⟩
/-- how many of a list are not yet there -/
def leftN [DecidableEq α] (us xs0 : List α) : Nat := (us.filter fun u => decide (u ∉ xs0)).length
theorem leftN_le [DecidableEq α] {us xs0 bs : List α} (h : ∀ x ∈ xs0, x ∈ bs) : leftN us bs ≤ leftN us xs0 := by
  unfold leftN
  induction us with
  | nil => simp
  | cons u us ih =>
    rw [List.filter_cons, List.filter_cons]
    by_cases h1 : u ∈ bs
    · have h2 : ¬ (decide (u ∉ bs) = true) := by simpa using h1
      rw [if_neg h2]
      split
      · rw [List.length_cons]; omega
      · exact ih
    · have h2 : decide (u ∉ bs) = true := by simpa using h1
      have h3 : decide (u ∉ xs0) = true := by simpa using fun hu => h1 (h u hu)
      rw [if_pos h2, if_pos h3]; simpa using ih
theorem leftN_lt [DecidableEq α] {us xs0 bs : List α} {x : α} (h : ∀ x ∈ xs0, x ∈ bs) (hx : x ∈ us) (h1 : x ∉ xs0) (h2 : x ∈ bs) : leftN us bs < leftN us xs0 := by
  induction us with
  | nil => cases hx
  | cons u us ih =>
    have hle : leftN us bs ≤ leftN us xs0 := leftN_le h
    unfold leftN at ih hle ⊢
    rw [List.filter_cons, List.filter_cons]
    rcases List.mem_cons.1 hx with rfl | hx
    · have h3 : ¬ (decide (x ∉ bs) = true) := by simpa using h2
      have h4 : decide (x ∉ xs0) = true := by simpa using h1
      rw [if_neg h3, if_pos h4, List.length_cons]; omega
    · by_cases hb : u ∈ bs
      · have h3 : ¬ (decide (u ∉ bs) = true) := by simpa using hb
        rw [if_neg h3]
        split
        · rw [List.length_cons]; have := ih hx; omega
        · exact ih hx
      · have h3 : decide (u ∉ bs) = true := by simpa using hb
        have h4 : decide (u ∉ xs0) = true := by simpa using fun hu => hb (h u hu)
        rw [if_pos h3, if_pos h4]; simpa using ih hx
theorem nodup_len {us xs0 : List α} (h : xs0.Nodup) (hs : ∀ x ∈ xs0, x ∈ us) : xs0.length ≤ us.length := List.Nodup.length_le_of_subset h hs
end
/-! the needs of choices -/
open Go.RowKit
def wname (x : Want × Value) : Nam := x.1.name
/-- from a package's name to what its choices need -/
def EdgeN (lock : List Pik) (needs : List (Want × Value)) (ps : List DPack) (a b : Nam) : Prop := ∃ o ∈ selL lock (S a) needs (findP ps (S a)).os, ∃ n ∈ o.ns, wname n = b
theorem edge_of {lock : List Pik} {needs : List (Want × Value)} {ps : List DPack} {a : Nam} {out : List DOff} (h : ChoiceIs lock (S a) needs (findP ps (S a)).os out) (b : Nam) : EdgeN lock needs ps a b ↔ ∃ o ∈ out, ∃ n ∈ o.ns, wname n = b := by
  unfold EdgeN
  constructor
  · rintro ⟨o, ho, r⟩; exact ⟨o, h.1.mem_iff.2 ho, r⟩
  · rintro ⟨o, ho, r⟩; exact ⟨o, h.1.mem_iff.1 ho, r⟩
/-- all names that stand anywhere -/
def allNames (needs : List (Want × Value)) (ps : List DPack) : List Nam := needs.map wname ++ ps.flatMap fun p => p.os.flatMap fun o => o.ns.map wname
theorem selL_sub {lock : List Pik} {nm : ByteArray} {needs : List (Want × Value)} {o : DOff} : ∀ (os out : List DOff), o ∈ os.foldl (selStep lock nm needs) out → o ∈ out ∨ o ∈ os
  | [], out, h => .inl h
  | x :: os, out, h => by
    rw [List.foldl_cons] at h
    rcases selL_sub os _ h with h | h
    · unfold selStep at h
      split at h
      · rcases List.mem_append.1 h with h | h
        · exact .inl h
        · simp at h; subst h; exact .inr (by simp)
      · exact .inl h
    · exact .inr (List.mem_cons_of_mem _ h)
theorem findP_os {ps : List DPack} {nm : ByteArray} {o : DOff} (h : o ∈ (findP ps nm).os) : ∃ p ∈ ps, o ∈ p.os := by
  unfold findP at h
  rcases hf : ps.find? (fun p => decide (p.name = nm)) with _ | p
  · rw [hf] at h; simp at h
  · rw [hf] at h
    exact ⟨p, List.mem_of_find?_eq_some hf, h⟩
theorem findP_name (ps : List DPack) (nm : ByteArray) : (findP ps nm).name = nm := by
  unfold findP
  rcases hf : ps.find? (fun p => decide (p.name = nm)) with _ | p
  · rw [hf]; rfl
  · have := List.find?_some hf
    rw [hf]; simpa using this
theorem edge_all {lock : List Pik} {needs : List (Want × Value)} {ps : List DPack} {a b : Nam} (h : EdgeN lock needs ps a b) : b ∈ allNames needs ps := by
  obtain ⟨o, ho, n, hn, rfl⟩ := h
  rcases selL_sub _ _ ho with h | h
  · cases h
  · obtain ⟨p, hp, ho⟩ := findP_os h
    exact List.mem_append_right _ (List.mem_flatMap.2 ⟨p, hp, List.mem_flatMap.2 ⟨o, ho, List.mem_map.2 ⟨n, hn, rfl⟩⟩⟩)
/-- what is reached -/
def ReachedN (lock : List Pik) (needs : List (Want × Value)) (ps : List DPack) (a : Nam) : Prop := ReachedL (EdgeN lock needs ps) (needs.map wname) a
def SimOs (a b : List DOff) : Prop := b.length = a.length ∧ ∀ k (h : k < a.length) (h' : k < b.length), SimO a[k] b[k]
theorem SimO.symm {a b : DOff} (h : SimO a b) : SimO b a := ⟨h.1.symm, h.2.1.symm, h.2.2.symm⟩
theorem SimO.trans {a b c : DOff} (h : SimO a b) (h' : SimO b c) : SimO a c := ⟨h.1.trans h'.1, h.2.1.trans h'.2.1, h.2.2.trans h'.2.2⟩
theorem SimOs.refl (a : List DOff) : SimOs a a := ⟨rfl, fun _ _ _ => SimO.refl _⟩
theorem SimOs.symm {a b : List DOff} (h : SimOs a b) : SimOs b a := ⟨h.1.symm, fun k h1 h2 => (h.2 k h2 h1).symm⟩
theorem SimOs.trans {a b c : List DOff} (h : SimOs a b) (h' : SimOs b c) : SimOs a c := ⟨h'.1.trans h.1, fun k h1 h2 => (h.2 k h1 (by rw [h.1]; exact h1)).trans (h'.2 k (by rw [h.1]; exact h1) h2)⟩
def pname (p : DPack) : Nam := p.name.data.toList
theorem pname_S (p : DPack) : S (pname p) = p.name := S_of _
/-- a table of choices -/
structure TableIs (lock : List Pik) (needs : List (Want × Value)) (ps ts : List DPack) : Prop where
  up : (ts.map pname).Pairwise (· < ·)
  just : ∀ a, a ∈ ts.map pname ↔ ReachedN lock needs ps a
  each : ∀ t ∈ ts, ∃ out, ChoiceIs lock t.name needs (findP ps t.name).os out ∧ SimOs out t.os
theorem sorted_one {a b : List Nam} (ha : a.Pairwise (· < ·)) (hb : b.Pairwise (· < ·)) (h : ∀ x, x ∈ a ↔ x ∈ b) : a = b :=
  pairwise_uniq (fun x => List.lt_irrefl x) (fun _ _ _ => List.lt_trans) ha hb h
theorem two_tables {lock : List Pik} {needs : List (Want × Value)} {ps a b : List DPack} (ha : TableIs lock needs ps a) (hb : TableIs lock needs ps b) :
    b.length = a.length ∧ ∀ k (h : k < a.length) (h' : k < b.length), SimP a[k] b[k] := by
  have e : a.map pname = b.map pname := sorted_one ha.up hb.up fun x => (ha.just x).trans (hb.just x).symm
  have hl : b.length = a.length := by have := congrArg List.length e; simpa using this.symm
  refine ⟨hl, fun k h h' => ?_⟩
  have hn : a[k].name = b[k].name := by
    have : (a.map pname)[k]? = (b.map pname)[k]? := by rw [e]
    rw [List.getElem?_map, List.getElem?_map, List.getElem?_eq_getElem h, List.getElem?_eq_getElem h'] at this
    simp only [Option.map_some, Option.some.injEq] at this
    rw [← pname_S, ← pname_S, this]
  obtain ⟨x, hx, sx⟩ := ha.each _ (List.getElem_mem h)
  obtain ⟨y, hy, sy⟩ := hb.each _ (List.getElem_mem h')
  rw [← hn] at hy
  have := hx.uniq hy
  subst this
  have := sx.symm.trans sy
  exact ⟨hn, this.1, this.2⟩
end Go
