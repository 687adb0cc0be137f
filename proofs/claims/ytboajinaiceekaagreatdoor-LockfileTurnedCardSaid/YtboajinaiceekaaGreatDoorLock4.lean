/- Locks: the program's Show: a walk. -/
import Derived.Test.YtboajinaiceekaaGreatDoorLock3
import Derived.Test.YtboajinaiceekaaGreatDoorCrc2
namespace Go
open Go.RowKit
theorem pik_parts' {p : Pik} (h : p.ok = true) : nameOk p.nm = true ∧ p.v.ok = true := by unfold Pik.ok at h; simpa using h
theorem lineN_len {p : Pik} (h : p.ok = true) : (lineN p).length ≤ 71 := by
  obtain ⟨h1, h2⟩ := pik_parts' h
  have := (name_len h1).2.1
  have := vshow_len h2
  unfold lineN Pik.line
  simp only [List.length_append, List.length_cons, List.length_nil]
  omega
def shTo (ps : List Pik) (k : Nat) : List UInt8 := headL ++ ((ps.take k).map lineN).flatten
theorem shTo_succ {ps : List Pik} {k : Nat} (h : k < ps.length) : shTo ps (k + 1) = shTo ps k ++ lineN ps[k] := by
  unfold shTo
  rw [List.take_succ_eq_append_getElem h, List.map_append, List.flatten_append, List.append_assoc]
  simp
theorem shTo_len {ps : List Pik} (h : ∀ p ∈ ps, p.ok = true) : ∀ k, k ≤ ps.length → (shTo ps k).length ≤ 7 + 71 * k
  | 0, _ => by simp [shTo, headL]
  | k + 1, hk => by
    rw [shTo_succ (by omega), List.length_append]
    have := shTo_len h k (by omega)
    have := lineN_len (h ps[k] (List.getElem_mem _))
    omega
theorem shTo_all (ps : List Pik) : shTo ps ps.length = bodyL ps := by unfold shTo bodyL; rw [List.take_length]
theorem may_mem {ps : List Pik} (h : mayB ps = true) : (∀ p ∈ ps, p.ok = true) ∧ ps.length ≤ 40 := by
  unfold mayB at h
  rw [Bool.and_eq_true, decide_eq_true_eq] at h
  refine ⟨fun p hp => ?_, h.2⟩
  obtain ⟨k, hk, rfl⟩ := List.getElem_of_mem hp
  exact may_ok h.1 hk
end Go
namespace Go.Proofs.YtboajinaiceekaaGreatDoor
open Go.RowKit
theorem may_as (v : Value) (ps : List Pik) (r : Bool) (h : mayB ps = r) (w : World) (hv : Piks w v ps) (hE : Env w) (hp : ∀ x ∈ ps, x.v.p.size ≤ 300) :
    Calls Tryz.prog 20 #[v] w fun e w' => e = .returned (.bool r) ∧ Below w.heap.size w w' := by
  subst h; exact may_any v ps w hv hE hp
def LsRel (ps : List Pik) (w : World) (v i : Value) (wr : World) : Prop :=
  ∃ (k : Nat) (A : ByteArray), k ≤ ps.length ∧ i = .int .i64 (k : Int) ∧ v = .string A ∧ S (shTo ps k) = A ∧ Below w.heap.size w wr
set_option maxRecDepth 100000 in
set_option maxHeartbeats 2000000 in
theorem lshow_any (v : Value) (ps : List Pik) (w : World) (hv : Piks w v ps) (hE : Env w) (hp : ∀ x ∈ ps, x.v.p.size ≤ 300) :
    Calls Tryz.prog 11 #[v] w fun e w' => e = .returned (.tuple #[.string (S (lockShow ps).1), .int .i64 (lockShow ps).2]) ∧ Below w.heap.size w w' := by
  obtain ⟨r, hr⟩ : ∃ r, mayB ps = r := ⟨_, rfl⟩
  have HM := Lib.hid (may_as v ps r hr w hv hE hp)
  have HR := Lib.hid hr
  have hlen := hv.len
  have HV := Lib.hid hv
  have HE := Lib.hid hE
  clear hv hE hp hr
  obtain ⟨a0, cap0, rfl⟩ := hlen
  cases r
  · have HS : Hid (lockShow ps = ([], 370)) := by show _ = _; unfold lockShow; rw [HR.out]; rfl
    go_enter Tryz.func11, Tryz.ntmps11
    go_wp2_with fail
    refine HM.out.mono ?_
    rintro e w1 ⟨rfl, hb1⟩
    go_wp2_with fail
    go_ret2
    exact ⟨by rw [HS.out]; rfl, hb1⟩
  have hm := may_mem HR.out
  have hl40 := hm.2
  have HOk := Lib.hid hm.1
  clear hm
  have HS : Hid (lockShow ps = (lockL ps, 0)) := by show _ = _; unfold lockShow; rw [HR.out]; rfl
  go_enter Tryz.func11, Tryz.ntmps11
  go_wp2_with fail
  refine HM.out.mono ?_
  rintro e w1 ⟨rfl, hb1⟩
  have HV1 := Lib.hid (HV.out.below hb1 (Nat.le_refl _))
  have HE1 := Lib.hid (HE.out.below hb1)
  go_wp2_with fail
  go_loopw [4, 12] (fun v i wr => LsRel ps w1 v i wr) (fun _ i _ => ps.length - (intOf i).toNat)
  case atStart => exact ⟨0, _, Nat.zero_le _, rfl, rfl, rfl, Below.refl _ _⟩
  case round =>
    obtain ⟨k, A, hk, rfl, rfl, hA, hb⟩ := hrel
    have hAs : A.size ≤ 7 + 71 * k := by rw [← hA, S_size]; exact shTo_len HOk.out k hk
    have HA := Lib.hid hA
    clear hA
    by_cases hlt : k < ps.length
    · have i0 : (0 : Int) ≤ (k : Int) := by omega
      have i1 : (k : Int) < (ps.length : Int) := by omega
      obtain ⟨bx, ox, rfl, hbx, hc⟩ := HV1.out.row hb hlt
      obtain ⟨c0, c1, c2, c3, c4⟩ := hc k hlt
      obtain ⟨nm, y, hye⟩ : ∃ nm y, ps[k] = ⟨nm, y⟩ := ⟨_, _, rfl⟩
      have hok := HOk.out _ (List.getElem_mem hlt)
      rw [hye] at c0 c1 c2 c3 c4 hok
      simp only at c0 c1 c2 c3 c4
      obtain ⟨hn1, hv1⟩ := pik_parts' hok
      have hns : nm.size ≤ 24 := by have := (name_len hn1).2.1; rw [Lib.size_eq]; exact this
      obtain ⟨L, hL⟩ : ∃ L, S (Pik.line ⟨nm, y⟩) = L := ⟨_, rfl⟩
      have hLs : L.size ≤ 70 := by
        rw [← hL, S_size]
        have := lineN_len hok
        unfold lineN at this
        rw [List.length_append] at this
        simp at this; omega
      have HL := Lib.hid (fun W hW => line_as nm y hv1 hns L hL W hW)
      have HY := Lib.hid hye
      have HLe := Lib.hid hL
      have hbx2 := Nat.lt_of_lt_of_le hbx hb.size
      have hal := (Below.refl wr.heap.size wr).alloc (Nat.le_refl _) (.cells #[.string nm, .int .i64 y.a, .int .i64 y.b, .int .i64 y.c, .string y.p] 47)
      have r1 : ∀ W, (Op.stringOp .add L ⟨#[10]⟩).run Tryz.prog W = .ok (.string (L ++ ⟨#[10]⟩)) W := fun W => run_string_add_sum W _ _ (by rw [show (⟨#[10]⟩ : ByteArray).size = 1 from rfl]; omega)
      have r2 : ∀ W, (Op.stringOp .add A (L ++ ⟨#[10]⟩)).run Tryz.prog W = .ok (.string (A ++ (L ++ ⟨#[10]⟩))) W := fun W => run_string_add_sum W _ _ (by rw [ByteArray.size_append, show (⟨#[10]⟩ : ByteArray).size = 1 from rfl]; omega)
      clear hye hc hok hn1 hL hv1
      go_wp2_with fail
      refine (HL.out _ ((HE1.out.below hb).below hal)).mono ?_
      rintro e w3 ⟨rfl, hb3⟩
      have hb4 := below_then hb (below_then hal hb3)
      clear hal hb3 c0 c1 c2 c3 c4
      go_wp2_with fail
      go_roundw
      case rel =>
        refine ⟨k + 1, _, hlt, by go_num, rfl, ?_, hb4⟩
        rw [shTo_succ hlt, ← HA.out, HY.out, ← HLe.out]
        apply ByteArray.ext; apply Array.toList_inj.1; simp [S, lineN]
      case measure => simp [intOf]; omega
    · have q5 : decide (k < ps.length) = false := decide_eq_false hlt
      have hkl : k = ps.length := by omega
      have HA2 : Hid (S (bodyL ps) = A) := by show _ = _; rw [← HA.out, hkl, shTo_all]
      have hAs2 : A.size ≤ 3000 := by omega
      obtain ⟨n, hn⟩ : ∃ n, Crc.sum A.data.toList = n := ⟨_, rfl⟩
      have hnl : n < 4294967296 := by rw [← hn]; exact Crc.sum_lt _
      have HSm := Lib.hid (fun W T => sum1_new A (by omega) W T)
      rw [hn] at HSm
      have HN := Lib.hid hn
      obtain ⟨D, hD⟩ : ∃ D, S (hexK 8 n) = D := ⟨_, rfl⟩
      have hDs : D.size = 8 := by rw [← hD, S_size, hexK_length]
      have HDg := Lib.hid (fun W => ldigits_as n hnl W)
      rw [hD] at HDg
      have HD := Lib.hid hD
      have hal := (Below.refl wr.heap.size wr).alloc (Nat.le_refl _) (.cells #[.string A] 9)
      have r1 : ∀ W, (Op.stringOp .add A ⟨#[115, 117, 109, 32]⟩).run Tryz.prog W = .ok (.string (A ++ ⟨#[115, 117, 109, 32]⟩)) W := fun W => run_string_add_sum W _ _ (by rw [show (⟨#[115, 117, 109, 32]⟩ : ByteArray).size = 4 from rfl]; omega)
      have r2 : ∀ W, (Op.stringOp .add (A ++ ⟨#[115, 117, 109, 32]⟩) D).run Tryz.prog W = .ok (.string (A ++ ⟨#[115, 117, 109, 32]⟩ ++ D)) W := fun W => run_string_add_sum W _ _ (by rw [ByteArray.size_append, show (⟨#[115, 117, 109, 32]⟩ : ByteArray).size = 4 from rfl]; omega)
      have r3 : ∀ W, (Op.stringOp .add (A ++ ⟨#[115, 117, 109, 32]⟩ ++ D) ⟨#[10]⟩).run Tryz.prog W = .ok (.string (A ++ ⟨#[115, 117, 109, 32]⟩ ++ D ++ ⟨#[10]⟩)) W := fun W => run_string_add_sum W _ _ (by rw [ByteArray.size_append, ByteArray.size_append, show (⟨#[115, 117, 109, 32]⟩ : ByteArray).size = 4 from rfl, show (⟨#[10]⟩ : ByteArray).size = 1 from rfl]; omega)
      clear hlt hkl hn hD hAs hDs hnl
      go_wp2_with fail
      refine (HSm.out _ _).mono ?_
      rintro e w3 ⟨rfl, rfl⟩
      go_wp2_with fail
      refine (HDg.out _).mono ?_
      rintro e w4 ⟨rfl, hb4⟩
      have hb5 := below_then hb1 (below_then hb (below_then hal hb4))
      clear hal hb4
      go_wp2_with fail
      go_ret2
      refine ⟨?_, hb5⟩
      rw [HS.out]
      have hX : A ++ ⟨#[115, 117, 109, 32]⟩ ++ D ++ ⟨#[10]⟩ = S (lockL ps) := by
        rw [← HD.out, ← HN.out, ← HA2.out]
        apply ByteArray.ext; apply Array.toList_inj.1; simp [S, lockL, sumL]
      rw [← hX]
      rfl
end Go.Proofs.YtboajinaiceekaaGreatDoor
