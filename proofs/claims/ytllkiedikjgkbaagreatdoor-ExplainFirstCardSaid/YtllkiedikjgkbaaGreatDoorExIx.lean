/- Explain: where a need's package is: walks. -/
import Derived.Test.YtllkiedikjgkbaaGreatDoorTabFirst
namespace Go
end Go
namespace Go.Proofs.YtllkiedikjgkbaaGreatDoor
open Go.RowKit
set_option maxRecDepth 100000 in
set_option maxHeartbeats 1000000 in
theorem text1_as (x : DPack) (b : Nat) (nm : ByteArray) (r : Bool) (hr : (x.name.toList == nm.toList) = r) (w : World) (hc : w.cell? ⟨b, 0, none⟩ = some (.string nm)) :
    Calls Tryz.prog 79 #[.agg #[.string x.name, x.ov], .pointer (some ⟨b, 0, none⟩)] w fun e w' => e = .returned (.bool r) ∧ Below w.heap.size w w' := by
  have hW := (Below.refl w.heap.size w).alloc (Nat.le_refl _) (.cells #[.string x.name, x.ov] 29)
  have hz := cell_lt hc
  have c1 := (hW.cell (p := ⟨b, 0, none⟩) hz).trans hc
  go_enter Tryz.func79, Tryz.ntmps79
  go_wp2_with fail
  go_ret
  exact ⟨rfl, hW⟩
def TixRel (ps : List DPack) (n : ByteArray) (w : World) (i : Value) (wr : World) : Prop :=
  ∃ k : Nat, k ≤ ps.length ∧ i = .int .i64 (k : Int) ∧ (∀ j (h : j < ps.length), j < k → ps[j].name ≠ n) ∧ Below w.heap.size w wr
set_option maxRecDepth 100000 in
set_option maxHeartbeats 2000000 in
theorem textIx_any (v : Value) (ps : List DPack) (b : Nat) (nm : ByteArray) (w : World) (hv : Packs w v ps) (hc : w.cell? ⟨b, 0, none⟩ = some (.string nm)) :
    Calls Tryz.prog 44 #[v, .func (.func 79) #[] #[.pointer (some ⟨b, 0, none⟩)]] w fun e w' => ∃ r, e = .returned (.int .i64 r) ∧ PackAt ps nm r ∧ Below w.heap.size w w' := by
  obtain ⟨hmx, a0, cap0, rfl⟩ := hv.len
  have HV := Lib.hid hv
  have hmx2 : ps.length ≤ 9223372036854775807 := Nat.le_trans hmx (by decide)
  have HC := Lib.hid hc
  have hz := cell_lt hc
  clear hv hc hmx
  go_enter Tryz.func44, Tryz.ntmps44
  go_wp2_with fail
  go_loopw [8] (fun i wr => TixRel ps nm w i wr) (fun i _ => ps.length - (intOf i).toNat)
  case atStart => exact ⟨0, Nat.zero_le _, rfl, fun j h h' => by omega, Below.refl _ _⟩
  case round =>
    obtain ⟨k, hk, rfl, hall, hb⟩ := hrel
    have HA := Lib.hid hall
    clear hall
    by_cases hlt : k < ps.length
    · have i0 : (0 : Int) ≤ (k : Int) := by omega
      have i1 : (k : Int) < (ps.length : Int) := by omega
      obtain ⟨bx, ox, rfl, hbx, c0, c1⟩ := HV.out.at' hb hlt
      obtain ⟨x, hxe⟩ : ∃ x, ps[k] = x := ⟨_, rfl⟩
      rw [hxe] at c0 c1
      have HX := Lib.hid hxe
      have cb := cell_on HC.out hb
      clear hxe
      by_cases he : x.name = nm
      · have hr : (x.name.toList == nm.toList) = true := by rw [he]; exact beq_self_eq_true _
        have HN : Hid (PackAt ps nm (k : Int)) := .inl ⟨k, hlt, rfl, findP_at ps k hlt HA.out (by rw [HX.out]; exact he)⟩
        have HF := Lib.hid (text1_as x b nm true hr _ cb)
        clear he hr
        go_wp2_with fail
        refine HF.out.mono ?_
        rintro e w1 ⟨rfl, hb1⟩
        have hb2 := below_then hb hb1
        clear hb1
        go_wp2_with fail
        go_ret
        exact ⟨_, rfl, HN.out, hb2⟩
      · have hr : (x.name.toList == nm.toList) = false := by rw [beq_eq_false_iff_ne]; exact fun h => he (bytes_injC h)
        have HF := Lib.hid (text1_as x b nm false hr _ cb)
        have HNe := Lib.hid he
        clear he hr
        go_wp2_with fail
        refine HF.out.mono ?_
        rintro e w1 ⟨rfl, hb1⟩
        have hb2 := below_then hb hb1
        clear c0 c1 cb hb1
        go_wp2_with fail
        go_roundw
        case rel =>
          refine ⟨k + 1, hlt, by go_num, fun j h hj => ?_, hb2⟩
          by_cases hjk : j < k
          · exact HA.out j h hjk
          · have : j = k := by omega
            subst this
            rw [HX.out]; exact HNe.out
        case measure => simp [intOf]; omega
    · have q5 : decide (k < ps.length) = false := decide_eq_false hlt
      have HN : Hid (PackAt ps nm (-1)) := .inr ⟨rfl, findP_none (fun j hj => HA.out j hj (by omega))⟩
      clear hlt
      go_wp2_with fail
      go_ret
      exact ⟨_, rfl, HN.out, hb⟩
end Go.Proofs.YtllkiedikjgkbaaGreatDoor
