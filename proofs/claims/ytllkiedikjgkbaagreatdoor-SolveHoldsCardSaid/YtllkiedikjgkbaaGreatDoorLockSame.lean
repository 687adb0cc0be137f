/- The reference's Same of picks: a walk. -/
import Derived.Test.YtllkiedikjgkbaaGreatDoorSemCom
import Derived.Test.YtllkiedikjgkbaaGreatDoorSeA
namespace Go
theorem bytes_injP {p q : ByteArray} (h : p.toList = q.toList) : p = q := by
  rw [Lib.toList_data, Lib.toList_data] at h
  exact ByteArray.ext (Array.toList_inj.1 h)
end Go
namespace Go.Proofs.YtllkiedikjgkbaaGreatDoor
open Go.RowKit
set_option maxRecDepth 100000 in
theorem pick_eq (o : ByteArray) (a b c : Int) (p : ByteArray) (o' : ByteArray) (a' b' c' : Int) (p' : ByteArray) (r : Bool) (hr : r = decide (o = o' ∧ a = a' ∧ b = b' ∧ c = c' ∧ p = p')) (W : World) :
    (Op.equalIn 10000 45 (.agg #[.string o, .int .i64 a, .int .i64 b, .int .i64 c, .string p]) (.agg #[.string o', .int .i64 a', .int .i64 b', .int .i64 c', .string p'])).run Tryz.prog W = .ok r W := by
  subst hr
  go_simp
  by_cases h0 : o.toList = o'.toList
  · have h00 := bytes_injP h0
    subst h00
    by_cases h1 : a = a'
    · by_cases h2 : b = b'
      · by_cases h3 : c = c'
        · by_cases h4 : p.toList = p'.toList
          · have h5 := bytes_injP h4
            subst h5
            simp [h1, h2, h3]
          · have h5 : p ≠ p' := fun e => h4 (by rw [e])
            simp [h1, h2, h3, h4, h5]
        · simp [h1, h2, h3]
      · simp [h1, h2]
    · simp [h1]
  · have h00 : o ≠ o' := fun e => h0 (by rw [e])
    simp [h0, h00]
def SpkRel (xs ys : List Pik) (w : World) (i : Value) (wr : World) : Prop :=
  ∃ k : Nat, k ≤ xs.length ∧ i = .int .i64 (k : Int) ∧ xs.take k = ys.take k ∧ Below w.heap.size w wr
noncomputable instance : DecidableEq Pik := fun _ _ => Classical.propDecidable _
noncomputable def samePk (xs ys : List Pik) : Bool := decide (xs = ys)
set_option maxRecDepth 100000 in
set_option maxHeartbeats 2000000 in
theorem samePk_any (v u : Value) (xs ys : List Pik) (w : World) (hv : Piks w v xs) (hlen : ∃ a cap, v = .slice a xs.length cap) (hu : Piks w u ys) (hlen' : ∃ a cap, u = .slice a ys.length cap) (hn : xs.length ≤ 9223372036854775807) :
    Calls Tryz.prog 28 #[v, u] w fun e w' => e = .returned (.bool (samePk xs ys)) ∧ Below w.heap.size w w' := by
  obtain ⟨a0, cap0, rfl⟩ := hlen
  obtain ⟨a1, cap1, rfl⟩ := hlen'
  have HC := Lib.hid hv.cases.2
  have HD := Lib.hid hu.cases.2
  clear hv hu
  by_cases hl : xs.length = ys.length
  case neg =>
    have q : ((xs.length : Int) != (ys.length : Int)) = true := by simp; omega
    have q' : decide (xs.length = ys.length) = false := decide_eq_false hl
    have HF : Hid (samePk xs ys = false) := by show _ = _; exact decide_eq_false (fun e => hl (by rw [e]))
    clear hl
    go_enter Tryz.func28, Tryz.ntmps28
    go_wp2_with fail
    go_ret
    exact ⟨by rw [HF.out]; rfl, Below.refl _ _⟩
  rcases HC.out with ⟨_, _, _, hx⟩ | ⟨bx, ox, cap, hva, hn0, hbx, hc⟩
  · have h0 : xs.length = 0 := by rw [hx]; rfl
    have h0' : ys.length = 0 := by omega
    have HF : Hid (samePk xs ys = true) := by show _ = _; refine decide_eq_true ?_; rw [hx, List.eq_nil_of_length_eq_zero h0']
    rw [h0, h0']
    clear hl h0 h0' hx HC HD
    go_enter Tryz.func28, Tryz.ntmps28
    go_wp2_with fail
    go_loop [5] (fun i => i = .int .i64 0) (fun _ => 0)
    case atStart => rfl
    case round =>
      subst hrel
      go_wp2_with fail
      go_ret
      exact ⟨by rw [HF.out]; rfl, Below.refl _ _⟩
  rcases HD.out with ⟨_, _, _, hy⟩ | ⟨by', oy, cap', hua, hn0', hby, hd⟩
  · rw [hy] at hl; rw [hl] at hn0; cases hn0
  have ha0 : a0 = some ⟨bx, ox, none⟩ := by injection hva
  have ha1 : a1 = some ⟨by', oy, none⟩ := by injection hua
  subst ha0 ha1
  have HX := Lib.hid hc
  have HY := Lib.hid hd
  have q : ((xs.length : Int) != (ys.length : Int)) = false := by simp; omega
  have HL := Lib.hid hl
  rw [← hl]
  rw [← hl] at q
  clear hc hd hva hua hl HC HD
  go_enter Tryz.func28, Tryz.ntmps28
  go_wp2_with fail
  go_loopw [5] (fun i wr => SpkRel xs ys w i wr) (fun i _ => xs.length - (intOf i).toNat)
  case atStart => exact ⟨0, Nat.zero_le _, rfl, rfl, Below.refl _ _⟩
  case round =>
    obtain ⟨k, hk, rfl, heq, hb⟩ := hrel
    have HQ := Lib.hid heq
    clear heq
    by_cases hlt : k < xs.length
    · have hlt' : k < ys.length := by have := HL.out; omega
      have i0 : (0 : Int) ≤ (k : Int) := by omega
      have i1 : (k : Int) < (xs.length : Int) := by omega
      obtain ⟨g0, g1, g2, g3, g4⟩ := HX.out k hlt
      obtain ⟨f0, f1, f2, f3, f4⟩ := HY.out k hlt'
      have c0 := (hb.cell (p := ⟨bx, ox + k * 5, none⟩) hbx).trans g0
      have c1 := (hb.cell (p := ⟨bx, ox + k * 5 + 1, none⟩) hbx).trans g1
      have c2 := (hb.cell (p := ⟨bx, ox + k * 5 + 2, none⟩) hbx).trans g2
      have c3 := (hb.cell (p := ⟨bx, ox + k * 5 + 3, none⟩) hbx).trans g3
      have c4 := (hb.cell (p := ⟨bx, ox + k * 5 + 4, none⟩) hbx).trans g4
      have d0 := (hb.cell (p := ⟨by', oy + k * 5, none⟩) hby).trans f0
      have d1 := (hb.cell (p := ⟨by', oy + k * 5 + 1, none⟩) hby).trans f1
      have d2 := (hb.cell (p := ⟨by', oy + k * 5 + 2, none⟩) hby).trans f2
      have d3 := (hb.cell (p := ⟨by', oy + k * 5 + 3, none⟩) hby).trans f3
      have d4 := (hb.cell (p := ⟨by', oy + k * 5 + 4, none⟩) hby).trans f4
      have HT := Lib.hid (List.take_succ_eq_append_getElem hlt)
      have HT' := Lib.hid (List.take_succ_eq_append_getElem hlt')
      have HG : Hid (xs = ys → xs[k] = ys[k]) := by intro e; subst e; rfl
      obtain ⟨⟨o, ⟨a, b, c, p⟩⟩, hxe⟩ : ∃ x, xs[k] = x := ⟨_, rfl⟩
      obtain ⟨⟨o', ⟨a', b', c', p'⟩⟩, hye⟩ : ∃ y, ys[k] = y := ⟨_, rfl⟩
      rw [hxe] at c0 c1 c2 c3 c4 HG HT
      rw [hye] at d0 d1 d2 d3 d4 HG HT'
      clear g0 g1 g2 g3 g4 f0 f1 f2 f3 f4 hxe hye
      by_cases he : o = o' ∧ a = a' ∧ b = b' ∧ c = c' ∧ p = p'
      · have r1 : ∀ W, (Op.equalIn 10000 45 (.agg #[.string o, .int .i64 a, .int .i64 b, .int .i64 c, .string p]) (.agg #[.string o', .int .i64 a', .int .i64 b', .int .i64 c', .string p'])).run Tryz.prog W = .ok true W := fun W => pick_eq _ _ _ _ _ _ _ _ _ _ true (decide_eq_true he).symm W
        have HEe := Lib.hid he
        clear he
        go_wp2_with fail
        go_quiet (fail)
        go_wp2_with fail
        go_roundw
        case rel =>
          refine ⟨k + 1, hlt, by go_num, ?_, below_drewN hb _⟩
          obtain ⟨h0, h1, h2, h3, h4⟩ := HEe.out
          rw [HT.out, HT'.out, HQ.out, h0, h1, h2, h3, h4]
        case measure => simp [intOf]; omega
      · have r1 : ∀ W, (Op.equalIn 10000 45 (.agg #[.string o, .int .i64 a, .int .i64 b, .int .i64 c, .string p]) (.agg #[.string o', .int .i64 a', .int .i64 b', .int .i64 c', .string p'])).run Tryz.prog W = .ok false W := fun W => pick_eq _ _ _ _ _ _ _ _ _ _ false (decide_eq_false he).symm W
        have HF : Hid (samePk xs ys = false) := by
          show _ = _
          refine decide_eq_false (fun e => he ?_)
          have := HG.out e
          injection this with h0 h1
          injection h1 with h1 h2 h3 h4
          exact ⟨h0, h1, h2, h3, h4⟩
        clear he
        go_wp2_with fail
        go_quiet (fail)
        go_wp2_with fail
        go_ret
        exact ⟨by rw [HF.out]; rfl, below_drewN hb _⟩
    · have q2 : decide (k < xs.length) = false := decide_eq_false hlt
      have HF : Hid (samePk xs ys = true) := by
        show _ = _
        refine decide_eq_true ?_
        have h := HQ.out
        have hl := HL.out
        rw [List.take_of_length_le (by omega), List.take_of_length_le (by omega)] at h
        exact h
      clear hlt
      go_wp2_with fail
      go_ret
      exact ⟨by rw [HF.out]; rfl, hb⟩
end Go.Proofs.YtllkiedikjgkbaaGreatDoor
