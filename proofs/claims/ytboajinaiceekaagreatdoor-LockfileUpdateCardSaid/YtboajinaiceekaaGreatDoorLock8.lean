/- Locks: the program's find: walks. -/
import Derived.Test.YtboajinaiceekaaGreatDoorLockP
namespace Go
open Go.RowKit
def Pik.zero : Pik := ⟨⟨#[]⟩, V4.zero⟩
/-- where a name's pick is, or -1 -/
def FindAt (ps : List Pik) (n : List UInt8) (r : Int) : Prop := (∃ i, ∃ h : i < ps.length, r = (i : Int) ∧ ps[i].nm = n) ∨ (r = -1 ∧ ∀ p ∈ ps, p.nm ≠ n)
/-- a name's pick -/
def FindIs (ps : List Pik) (n : List UInt8) (p : Pik) (ok : Bool) : Prop := (ok = true ∧ p ∈ ps ∧ p.nm = n) ∨ (ok = false ∧ p = Pik.zero ∧ ∀ q ∈ ps, q.nm ≠ n)
end Go
namespace Go.Proofs.YtboajinaiceekaaGreatDoor
open Go.RowKit
set_option maxRecDepth 100000 in
set_option maxHeartbeats 1000000 in
theorem find1_as (x : Pik) (b : Nat) (nm : ByteArray) (r : Bool) (hr : (x.name.toList == nm.toList) = r) (w : World) (hc : w.cell? ⟨b, 0, none⟩ = some (.string nm)) :
    Calls Tryz.prog 66 #[.agg #[.string x.name, .int .i64 x.v.a, .int .i64 x.v.b, .int .i64 x.v.c, .string x.v.p], .pointer (some ⟨b, 0, none⟩)] w fun e w' => e = .returned (.bool r) ∧ Below w.heap.size w w' := by
  have hW := (Below.refl w.heap.size w).alloc (Nat.le_refl _) (.cells #[.string x.name, .int .i64 x.v.a, .int .i64 x.v.b, .int .i64 x.v.c, .string x.v.p] 47)
  have hz := cell_lt hc
  have c1 := (hW.cell (p := ⟨b, 0, none⟩) hz).trans hc
  go_enter Tryz.func66, Tryz.ntmps66
  go_wp2_with fail
  go_ret
  exact ⟨rfl, hW⟩
def IxRel (ps : List Pik) (n : List UInt8) (w : World) (i : Value) (wr : World) : Prop :=
  ∃ k : Nat, k ≤ ps.length ∧ i = .int .i64 (k : Int) ∧ (∀ j (h : j < ps.length), j < k → ps[j].nm ≠ n) ∧ Below w.heap.size w wr
set_option maxRecDepth 100000 in
set_option maxHeartbeats 2000000 in
theorem index_any (v : Value) (ps : List Pik) (b : Nat) (nm : ByteArray) (w : World) (hv : Piks w v ps) (hc : w.cell? ⟨b, 0, none⟩ = some (.string nm)) :
    Calls Tryz.prog 65 #[v, .func (.func 66) #[] #[.pointer (some ⟨b, 0, none⟩)]] w fun e w' => ∃ r, e = .returned (.int .i64 r) ∧ FindAt ps nm.data.toList r ∧ Below w.heap.size w w' := by
  obtain ⟨a0, cap0, rfl⟩ := hv.len
  have HV := Lib.hid hv
  have hmx : ps.length ≤ 9223372036854775807 := Nat.le_trans hv.cases.1 (by decide)
  have HC := Lib.hid hc
  have hz := cell_lt hc
  clear hv hc
  go_enter Tryz.func65, Tryz.ntmps65
  go_wp2_with fail
  go_loopw [8] (fun i wr => IxRel ps nm.data.toList w i wr) (fun i _ => ps.length - (intOf i).toNat)
  case atStart => exact ⟨0, Nat.zero_le _, rfl, fun j h h' => by omega, Below.refl _ _⟩
  case round =>
    obtain ⟨k, hk, rfl, hall, hb⟩ := hrel
    have HA := Lib.hid hall
    clear hall
    by_cases hlt : k < ps.length
    · have i0 : (0 : Int) ≤ (k : Int) := by omega
      have i1 : (k : Int) < (ps.length : Int) := by omega
      obtain ⟨bx, ox, rfl, hbx, hcp⟩ := HV.out.row hb hlt
      obtain ⟨c0, c1, c2, c3, c4⟩ := hcp k hlt
      obtain ⟨x, hxe⟩ : ∃ x, ps[k] = x := ⟨_, rfl⟩
      rw [hxe] at c0 c1 c2 c3 c4
      have HX := Lib.hid hxe
      have cb := (hb.cell (p := ⟨b, 0, none⟩) hz).trans HC.out
      clear hcp hxe
      by_cases he : x.nm = nm.data.toList
      · have hr : (x.name.toList == nm.toList) = true := by rw [Lib.toList_data, Lib.toList_data]; exact beq_iff_eq.2 he
        have HN : Hid (FindAt ps nm.data.toList (k : Int)) := .inl ⟨k, hlt, rfl, by rw [HX.out]; exact he⟩
        have HF := Lib.hid (fun W h => find1_as x b nm true hr W h)
        clear he hr
        go_wp2_with fail
        refine (HF.out _ cb).mono ?_
        rintro e w1 ⟨rfl, hb1⟩
        have hb2 := below_then hb hb1
        go_wp2_with fail
        go_ret
        exact ⟨_, rfl, HN.out, hb2⟩
      · have hr : (x.name.toList == nm.toList) = false := by rw [Lib.toList_data, Lib.toList_data]; exact beq_eq_false_iff_ne.2 he
        have HF := Lib.hid (fun W h => find1_as x b nm false hr W h)
        have HNe := Lib.hid he
        clear he hr
        go_wp2_with fail
        refine (HF.out _ cb).mono ?_
        rintro e w1 ⟨rfl, hb1⟩
        have hb2 := below_then hb hb1
        clear c0 c1 c2 c3 c4 cb hb1
        go_wp2_with fail
        go_roundw
        case rel =>
          refine ⟨k + 1, hlt, by go_num, fun j h hj => ?_, hb2⟩
          by_cases hjk : j < k
          · exact HA.out j h hjk
          · have : j = k := by omega
            subst this
            rw [HX.out]; exact HNe.out
        case measure => simp [intOf]; omega
    · have q5 : decide (k < ps.length) = false := decide_eq_false hlt
      have HN : Hid (FindAt ps nm.data.toList (-1)) := .inr ⟨rfl, fun p hp => by
        obtain ⟨j, hj, rfl⟩ := List.getElem_of_mem hp
        exact HA.out j hj (by omega)⟩
      clear hlt
      go_wp2_with fail
      go_ret
      exact ⟨_, rfl, HN.out, hb⟩
set_option maxRecDepth 100000 in
set_option maxHeartbeats 2000000 in
theorem find_any (v : Value) (ps : List Pik) (nm : ByteArray) (w : World) (hv : Piks w v ps) :
    Calls Tryz.prog 39 #[v, .string nm] w fun e w' => ∃ p ok, e = .returned (.tuple #[.agg #[.string p.name, .int .i64 p.v.a, .int .i64 p.v.b, .int .i64 p.v.c, .string p.v.p], .bool ok]) ∧ FindIs ps nm.data.toList p ok ∧ Below w.heap.size w w' := by
  have HV := Lib.hid hv
  have hlen := hv.len
  obtain ⟨a0, cap0, rfl⟩ := hlen
  have hmx : ps.length ≤ 9223372036854775807 := Nat.le_trans hv.cases.1 (by decide)
  have hW2 := ((Below.refl w.heap.size w).alloc (Nat.le_refl _) (.cells #[.string nm] 9)).alloc (by simp) (.cells #[.string ⟨#[]⟩, .int .i64 0, .int .i64 0, .int .i64 0, .string ⟨#[]⟩] 47)
  have hx1 := Below.refl (w.heap.size + 1) (w.alloc (.cells #[.string nm] 9))
  have hx2 := hx1.alloc (by simp) (.cells #[.string ⟨#[]⟩, .int .i64 0, .int .i64 0, .int .i64 0, .string ⟨#[]⟩] 47)
  have hbx := box_cells hx2 0
  have hsz : (w.alloc (.cells #[.string nm] 9)).heap.size = w.heap.size + 1 := by simp
  have HIx := Lib.hid (fun W h1 h2 => index_any (.slice a0 ps.length cap0) ps w.heap.size nm W h1 h2)
  have HV2 := Lib.hid (HV.out.below hW2 (Nat.le_refl _))
  clear hv hx1
  go_enter Tryz.func39, Tryz.ntmps39
  go_wp2_with fail
  refine (HIx.out _ HV2.out hbx).mono ?_
  rintro e w1 ⟨r, rfl, hf, hb1⟩
  have hx3 := box_of hb1
  have hb2 := below_then hW2 hb1
  obtain ⟨⟨d0, d1, d2, d3, d4⟩, ⟨f0, f1, f2, f3, f4⟩⟩ := box_five hx3
  rw [hsz] at d0 d1 d2 d3 d4 f0 f1 f2 f3 f4
  have hz := cell_lt d0
  have HF := Lib.hid hf
  clear hf hx3 hb1 hx2 hbx hW2 hsz
  rcases HF.out with ⟨i, hi, rfl, hin⟩ | ⟨rfl, hno⟩
  · have i0 : (0 : Int) ≤ (i : Int) := by omega
    have i1 : (i : Int) < (ps.length : Int) := by omega
    have q1 : decide ((i : Int) < 0) = false := decide_eq_false (by omega)
    obtain ⟨bx, ox, rfl, hbx, hcp⟩ := HV.out.row hb2 hi
    obtain ⟨c0, c1, c2, c3, c4⟩ := hcp i hi
    obtain ⟨x, hxe⟩ : ∃ x, ps[i] = x := ⟨_, rfl⟩
    rw [hxe] at c0 c1 c2 c3 c4
    have HN : Hid (FindIs ps nm.data.toList x true) := .inl ⟨rfl, by rw [← hxe]; exact List.getElem_mem hi, by rw [← hxe]; exact hin⟩
    have hne : bx ≠ w.heap.size + 1 := by omega
    clear hcp hxe hin
    go_wp2_with fail
    refine bodyPost_ret (v := .tuple #[.agg #[.string x.name, .int .i64 x.v.a, .int .i64 x.v.b, .int .i64 x.v.c, .string x.v.p], .bool true]) (by simp [results, Tryz.results39, go_sem, d0, d1, d2, d3, d4]) rfl ⟨x, true, rfl, HN.out, ?_⟩
    iterate 5 refine Below.setCell ?_ (p := ⟨w.heap.size + 1, _, none⟩) (Nat.le_succ _) _
    exact hb2
  · have HN : Hid (FindIs ps nm.data.toList Pik.zero false) := .inr ⟨rfl, rfl, hno⟩
    clear hno
    go_wp2_with fail
    refine bodyPost_ret (v := .tuple #[.agg #[.string ⟨#[]⟩, .int .i64 0, .int .i64 0, .int .i64 0, .string ⟨#[]⟩], .bool false]) (by simp [results, Tryz.results39, go_sem, d0, d1, d2, d3, d4]) rfl ⟨Pik.zero, false, rfl, HN.out, ?_⟩
    iterate 5 refine Below.setCell ?_ (p := ⟨w.heap.size + 1, _, none⟩) (Nat.le_succ _) _
    exact hb2
end Go.Proofs.YtboajinaiceekaaGreatDoor
