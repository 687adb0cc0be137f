/- Locks: the reference's Show: a walk. -/
import Derived.Test.YtboajinaiceekaaGreatDoorLockRef2
import Derived.Test.YtboajinaiceekaaGreatDoorLockP
namespace Go.Proofs.YtboajinaiceekaaGreatDoor
open Go.RowKit
/-- the cells of a pick in a row -/
def PkS (bx o : Nat) (nm : ByteArray) (y : V4) (w0 W : World) : Prop :=
  W.cell? ⟨bx, o, none⟩ = some (.string nm) ∧ W.cell? ⟨bx, o + 1, none⟩ = some (.int .i64 y.a) ∧ W.cell? ⟨bx, o + 2, none⟩ = some (.int .i64 y.b) ∧ W.cell? ⟨bx, o + 3, none⟩ = some (.int .i64 y.c) ∧ W.cell? ⟨bx, o + 4, none⟩ = some (.string y.p) ∧ Below w0.heap.size w0 W
theorem PkS.on {bx o : Nat} {nm : ByteArray} {y : V4} {w0 : World} : ∀ W W', PkS bx o nm y w0 W → Below W.heap.size W W' → PkS bx o nm y w0 W' := fun _ _ ⟨h0, h1, h2, h3, h4, h6⟩ hb =>
  ⟨cell_on h0 hb, cell_on h1 hb, cell_on h2 hb, cell_on h3 hb, cell_on h4 hb, below_then h6 hb⟩
def PkT (bx o : Nat) (nm : ByteArray) (y : V4) (bz q : Nat) (nn : ByteArray) (z : V4) (w0 W : World) : Prop := PkS bx o nm y w0 W ∧ PkS bz q nn z w0 W
theorem PkT.on {bx o : Nat} {nm : ByteArray} {y : V4} {bz q : Nat} {nn : ByteArray} {z : V4} {w0 : World} : ∀ W W', PkT bx o nm y bz q nn z w0 W → Below W.heap.size W W' → PkT bx o nm y bz q nn z w0 W' := fun _ _ ⟨h0, h1⟩ hb => ⟨h0.on _ _ hb, h1.on _ _ hb⟩
theorem Piks.pkS {w w' : World} {a0 : Option Addr} {cap0 : Nat} {ps : List Pik} (h : Piks w (.slice a0 ps.length cap0) ps) (hb : Below w.heap.size w w') {k : Nat} (hk : k < ps.length) :
    ∃ b off, a0 = some ⟨b, off, none⟩ ∧ PkS b (off + k * 5) ps[k].name ps[k].v w' w' := by
  obtain ⟨b, off, h1, _, h3⟩ := h.row hb hk
  obtain ⟨c0, c1, c2, c3, c4⟩ := h3 k hk
  exact ⟨b, off, h1, c0, c1, c2, c3, c4, Below.refl _ _⟩
theorem PkS.drew {bx o : Nat} {nm : ByteArray} {y : V4} {w0 : World} (h : PkS bx o nm y w0 w0) : PkS bx o nm y w0.drew w0.drew := by
  obtain ⟨h0, h1, h2, h3, h4, _⟩ := h
  exact ⟨by simpa using h0, by simpa using h1, by simpa using h2, by simpa using h3, by simpa using h4, Below.refl _ _⟩
def RsRel (ps : List Pik) (w : World) (v i : Value) (wr : World) : Prop :=
  ∃ (k : Nat) (A : ByteArray), k ≤ ps.length ∧ i = .int .i64 (k : Int) ∧ v = .string A ∧ S (shTo ps k) = A ∧ Below w.heap.size w wr
theorem rmay_as (v : Value) (ps : List Pik) (r : Bool) (h : mayB ps = r) (w : World) (hv : Piks w v ps) (hp : ∀ x ∈ ps, x.v.p.size ≤ 300) :
    Calls Tryz.prog 24 #[v] w fun e w' => e = .returned (.bool r) ∧ Below w.heap.size w w' := by
  subst h; exact rmay_any v ps w hv hp
set_option maxRecDepth 100000 in
set_option maxHeartbeats 2000000 in
theorem rlshow_any (v : Value) (ps : List Pik) (w : World) (hv : Piks w v ps) (hp : ∀ x ∈ ps, x.v.p.size ≤ 300) :
    Calls Tryz.prog 12 #[v] w fun e w' => e = .returned (.tuple #[.string (S (lockShow ps).1), .int .i64 (lockShow ps).2]) ∧ Below w.heap.size w w' := by
  obtain ⟨r, hr⟩ : ∃ r, mayB ps = r := ⟨_, rfl⟩
  have HM := Lib.hid (rmay_as v ps r hr w hv hp)
  have HR := Lib.hid hr
  have hlen := hv.len
  have HV := Lib.hid hv
  clear hv hp hr
  obtain ⟨a0, cap0, rfl⟩ := hlen
  cases r
  · have HS : Hid (lockShow ps = ([], 370)) := by show _ = _; unfold lockShow; rw [HR.out]; rfl
    go_enter Tryz.func12, Tryz.ntmps12
    go_wp2_with fail
    refine HM.out.mono ?_
    rintro e w1 ⟨rfl, hb1⟩
    go_wp2_with fail
    go_ret2
    exact ⟨by rw [HS.out]; rfl, hb1⟩
  have hm := may_mem HR.out
  have hl40 := hm.2
  have HOk := Lib.hid hm.1
  clear hm
  have HS : Hid (lockShow ps = (lockL ps, 0)) := by show _ = _; unfold lockShow; rw [HR.out]; rfl
  go_enter Tryz.func12, Tryz.ntmps12
  go_wp2_with fail
  refine HM.out.mono ?_
  rintro e w1 ⟨rfl, hb1⟩
  go_wp2_with fail
  go_loopw [4, 5] (fun v i wr => RsRel ps w1 v i wr) (fun _ i _ => ps.length - (intOf i).toNat)
  case atStart => exact ⟨0, _, Nat.zero_le _, rfl, rfl, rfl, Below.refl _ _⟩
  case round =>
    obtain ⟨k, A, hk, rfl, rfl, hA, hb⟩ := hrel
    have hAs : A.size ≤ 7 + 71 * k := by rw [← hA, S_size]; exact shTo_len HOk.out k hk
    have HA := Lib.hid hA
    clear hA
    by_cases hlt : k < ps.length
    · have i0 : (0 : Int) ≤ (k : Int) := by omega
      have i1 : (k : Int) < (ps.length : Int) := by omega
      obtain ⟨bx, ox, rfl, hst⟩ := Piks.pkS HV.out (below_then hb1 hb) hlt
      have hst := hst.drew
      obtain ⟨nm, y, hye⟩ : ∃ nm y, ps[k] = ⟨nm, y⟩ := ⟨_, _, rfl⟩
      have hok := HOk.out _ (List.getElem_mem hlt)
      rw [hye] at hst hok
      simp only at hst
      obtain ⟨hn1, hv1⟩ := pik_parts' hok
      have hns : nm.size ≤ 24 := by have := (name_len hn1).2.1; rw [Lib.size_eq]; exact this
      obtain ⟨T, hT⟩ : ∃ T, S y.show = T := ⟨_, rfl⟩
      have hTs : T.size ≤ 45 := by rw [← hT, S_size]; exact vshow_len hv1
      have HT := Lib.hid (fun W => rversion_as y hv1 T hT W)
      obtain ⟨A1, hA1⟩ : ∃ c, A ++ nm = c := ⟨_, rfl⟩
      have sA1 : A1.size ≤ A.size + 24 := by rw [← hA1, ByteArray.size_append]; exact Nat.add_le_add_left (by first | decide | assumption) _
      have rA1 := add_as (P := Tryz.prog) hA1 (by omega)
      obtain ⟨A2, hA2⟩ : ∃ c, A1 ++ ⟨#[32]⟩ = c := ⟨_, rfl⟩
      have sA2 : A2.size ≤ A1.size + 1 := by rw [← hA2, ByteArray.size_append]; exact Nat.add_le_add_left (by first | decide | assumption) _
      have rA2 := add_as (P := Tryz.prog) hA2 (by omega)
      obtain ⟨A3, hA3⟩ : ∃ c, A2 ++ T = c := ⟨_, rfl⟩
      have sA3 : A3.size ≤ A2.size + 45 := by rw [← hA3, ByteArray.size_append]; exact Nat.add_le_add_left (by first | decide | assumption) _
      have rA3 := add_as (P := Tryz.prog) hA3 (by omega)
      obtain ⟨A4, hA4⟩ : ∃ c, A3 ++ ⟨#[10]⟩ = c := ⟨_, rfl⟩
      have sA4 : A4.size ≤ A3.size + 1 := by rw [← hA4, ByteArray.size_append]; exact Nat.add_le_add_left (by first | decide | assumption) _
      have rA4 := add_as (P := Tryz.prog) hA4 (by omega)
      have HN : Hid (S (shTo ps (k + 1)) = A4) := by
        show _ = _
        rw [shTo_succ hlt, hye, ← hA4, ← hA3, ← hA2, ← hA1, ← HA.out, ← hT]
        apply ByteArray.ext; apply Array.toList_inj.1; simp [S, lineN, Pik.line, Pik.nm]
      have hdr := hb.drew
      clear hye hok hn1 hv1 hT hA1 hA2 hA3 hA4 hb
      go_wp2_with fail
      refine wp_region_held_drew (S := (fun W => PkS bx (ox + k * 5) nm y wr.drew W)) (by kernel_rfl) (hst) (fun hHeld => ?_)
      refine wpAnyH_take (i := 0) (v := ?_) rfl (by kernel_rfl) (by kernel_rfl) (by kernel_rfl) (fun _ _ _ h => h) (Or.inl ⟨by kernel_rfl, ?_⟩) hHeld ?_
      rotate_left
      · (rintro W ⟨e0, e1, e2, e3, e4, _⟩; go_simp; (try with_reducible rfl))
      (try simp only [Act.put, List.getElem_toArray, List.getElem_cons_zero, List.setIfInBounds_toArray, List.set_cons_succ, List.set_cons_zero])
      refine wpAnyH_take (i := 1) (v := ?_) rfl (by kernel_rfl) (by kernel_rfl) (by kernel_rfl) (fun _ _ _ h => h) (Or.inl ⟨by kernel_rfl, ?_⟩) hHeld ?_
      rotate_left
      · (rintro W ⟨e0, e1, e2, e3, e4, _⟩; go_simp; (try with_reducible rfl))
      (try simp only [Act.put, List.getElem_toArray, List.getElem_cons_succ, List.getElem_cons_zero, List.setIfInBounds_toArray, List.set_cons_succ, List.set_cons_zero])
      refine wpAnyH_take (i := 2) (v := ?_) rfl (by kernel_rfl) (by kernel_rfl) (by kernel_rfl) (fun _ _ _ h => h) (Or.inl ⟨by kernel_rfl, ?_⟩) hHeld ?_
      rotate_left
      · (rintro W ⟨e0, e1, e2, e3, e4, _⟩; go_simp; (try with_reducible rfl))
      (try simp only [Act.put, List.getElem_toArray, List.getElem_cons_succ, List.getElem_cons_zero, List.setIfInBounds_toArray, List.set_cons_succ, List.set_cons_zero])
      refine wpAnyH_take (i := 3) (v := ?_) rfl (by kernel_rfl) (by kernel_rfl) (by kernel_rfl) (fun _ _ _ h => h) (Or.inl ⟨by kernel_rfl, ?_⟩) hHeld ?_
      rotate_left
      · (rintro W ⟨e0, e1, e2, e3, e4, _⟩; go_simp; (try with_reducible rfl))
      (try simp only [Act.put, List.getElem_toArray, List.getElem_cons_succ, List.getElem_cons_zero, List.setIfInBounds_toArray, List.set_cons_succ, List.set_cons_zero])
      refine wpAnyH_take (i := 4) (v := ?_) rfl (by kernel_rfl) (by kernel_rfl) (by kernel_rfl) (fun _ _ _ h => h) (Or.inl ⟨by kernel_rfl, ?_⟩) hHeld ?_
      rotate_left
      · (rintro W ⟨e0, e1, e2, e3, e4, _⟩; go_simp; (try with_reducible rfl))
      (try simp only [Act.put, List.getElem_toArray, List.getElem_cons_succ, List.getElem_cons_zero, List.setIfInBounds_toArray, List.set_cons_succ, List.set_cons_zero])
      refine wpAnyH_take (i := 5) (v := ?_) rfl (by kernel_rfl) (by kernel_rfl) (by kernel_rfl) (fun _ _ _ h => h) (Or.inl ⟨by kernel_rfl, ?_⟩) hHeld ?_
      rotate_left
      · (rintro W ⟨e0, e1, e2, e3, e4, _⟩; go_simp; (try with_reducible rfl))
      (try simp only [Act.put, List.getElem_toArray, List.getElem_cons_succ, List.getElem_cons_zero, List.setIfInBounds_toArray, List.set_cons_succ, List.set_cons_zero])
      refine wpAnyH_take (i := 6) (v := ?_) rfl (by kernel_rfl) (by kernel_rfl) (by kernel_rfl) (fun _ _ _ h => h) (Or.inl ⟨by kernel_rfl, ?_⟩) hHeld ?_
      rotate_left
      · (rintro W ⟨e0, e1, e2, e3, e4, _⟩; go_simp; (try with_reducible rfl))
      (try simp only [Act.put, List.getElem_toArray, List.getElem_cons_succ, List.getElem_cons_zero, List.setIfInBounds_toArray, List.set_cons_succ, List.set_cons_zero])
      refine wpAnyH_take (i := 7) (v := ?_) rfl (by kernel_rfl) (by kernel_rfl) (by kernel_rfl) (fun _ _ _ h => h) (Or.inl ⟨by kernel_rfl, ?_⟩) hHeld ?_
      rotate_left
      · (rintro W ⟨e0, e1, e2, e3, e4, _⟩; go_simp; (try with_reducible rfl))
      (try simp only [Act.put, List.getElem_toArray, List.getElem_cons_succ, List.getElem_cons_zero, List.setIfInBounds_toArray, List.set_cons_succ, List.set_cons_zero])
      refine wpAnyH_take (i := 8) (v := ?_) rfl (by kernel_rfl) (by kernel_rfl) (by kernel_rfl) (fun _ _ _ h => h) (Or.inl ⟨by kernel_rfl, ?_⟩) hHeld ?_
      rotate_left
      · (rintro W ⟨e0, e1, e2, e3, e4, _⟩; go_simp; (try with_reducible rfl))
      (try simp only [Act.put, List.getElem_toArray, List.getElem_cons_succ, List.getElem_cons_zero, List.setIfInBounds_toArray, List.set_cons_succ, List.set_cons_zero])
      refine wpAnyH_take (i := 9) (v := ?_) rfl (by kernel_rfl) (by kernel_rfl) (by kernel_rfl) (fun _ _ _ h => h) (Or.inl ⟨by kernel_rfl, ?_⟩) hHeld ?_
      rotate_left
      · (rintro W ⟨e0, e1, e2, e3, e4, _⟩; go_simp; (try with_reducible rfl))
      (try simp only [Act.put, List.getElem_toArray, List.getElem_cons_succ, List.getElem_cons_zero, List.setIfInBounds_toArray, List.set_cons_succ, List.set_cons_zero])
      refine wpAnyH_take (i := 10) (v := ?_) rfl (by kernel_rfl) (by kernel_rfl) (by kernel_rfl) (fun _ _ _ h => h) (Or.inl ⟨by kernel_rfl, ?_⟩) hHeld ?_
      rotate_left
      · (rintro W ⟨e0, e1, e2, e3, e4, _⟩; go_simp; (try with_reducible rfl))
      (try simp only [Act.put, List.getElem_toArray, List.getElem_cons_succ, List.getElem_cons_zero, List.setIfInBounds_toArray, List.set_cons_succ, List.set_cons_zero])
      refine wpAnyH_take (i := 11) (v := ?_) rfl (by kernel_rfl) (by kernel_rfl) (by kernel_rfl) (fun _ _ _ h => h) (Or.inl ⟨by kernel_rfl, ?_⟩) hHeld ?_
      rotate_left
      · (rintro W ⟨e0, e1, e2, e3, e4, _⟩; go_simp; (try with_reducible rfl))
      (try simp only [Act.put, List.getElem_toArray, List.getElem_cons_succ, List.getElem_cons_zero, List.setIfInBounds_toArray, List.set_cons_succ, List.set_cons_zero])
      refine wpAnyH_take (i := 12) (v := ?_) rfl (by kernel_rfl) (by kernel_rfl) (by kernel_rfl) (fun _ _ _ h => h) (Or.inl ⟨by kernel_rfl, ?_⟩) hHeld ?_
      rotate_left
      · (rintro W ⟨e0, e1, e2, e3, e4, _⟩; go_simp; (try with_reducible rfl))
      (try simp only [Act.put, List.getElem_toArray, List.getElem_cons_succ, List.getElem_cons_zero, List.setIfInBounds_toArray, List.set_cons_succ, List.set_cons_zero])
      refine wpAnyH_ready (rs := [13]) (by kernel_rfl) (by simp) ?_
      refine AllReadyH.cons rfl (fun K hK => ?_) AllReadyH.nil
      go_simp
      refine (keepS PkS.on hHeld (HT.out _)).mono ?_
      rintro e w5 ⟨rfl, hk5⟩
      refine hK.out _ _ (hk5) (fun hHeld => ?_)
      clear hK K
      (try simp only [Act.put, List.getElem_toArray, List.getElem_cons_succ, List.getElem_cons_zero, List.setIfInBounds_toArray, List.set_cons_succ, List.set_cons_zero])
      refine wpAnyH_take (i := 14) (v := ?_) rfl (by kernel_rfl) (by kernel_rfl) (by kernel_rfl) (fun _ _ _ h => h) (Or.inl ⟨by kernel_rfl, ?_⟩) hHeld ?_
      rotate_left
      · (rintro W ⟨e0, e1, e2, e3, e4, _⟩; go_simp; (try with_reducible rfl))
      (try simp only [Act.put, List.getElem_toArray, List.getElem_cons_succ, List.getElem_cons_zero, List.setIfInBounds_toArray, List.set_cons_succ, List.set_cons_zero])
      refine wpAnyH_take (i := 15) (v := ?_) rfl (by kernel_rfl) (by kernel_rfl) (by kernel_rfl) (fun _ _ _ h => h) (Or.inl ⟨by kernel_rfl, ?_⟩) hHeld ?_
      rotate_left
      · (rintro W ⟨e0, e1, e2, e3, e4, _⟩; go_simp; (try with_reducible rfl))
      (try simp only [Act.put, List.getElem_toArray, List.getElem_cons_succ, List.getElem_cons_zero, List.setIfInBounds_toArray, List.set_cons_succ, List.set_cons_zero])
      refine wpAnyH_take (i := 16) (v := ?_) rfl (by kernel_rfl) (by kernel_rfl) (by kernel_rfl) (fun _ _ _ h => h) (Or.inl ⟨by kernel_rfl, ?_⟩) hHeld ?_
      rotate_left
      · (rintro W ⟨e0, e1, e2, e3, e4, _⟩; go_simp; (try with_reducible rfl))
      (try simp only [Act.put, List.getElem_toArray, List.getElem_cons_succ, List.getElem_cons_zero, List.setIfInBounds_toArray, List.set_cons_succ, List.set_cons_zero])
      refine wpAnyH_done (by kernel_rfl) ?_ _
      have hbF := below_then hdr hHeld.2.2.2.2.2
      clear hHeld
      go_wp2_with fail
      go_roundw
      case rel => exact ⟨k + 1, _, hlt, by go_num, rfl, HN.out, hbF⟩
      case measure => simp [intOf]; omega
    · have q5 : decide (k < ps.length) = false := decide_eq_false hlt
      have hkl : k = ps.length := by omega
      have HA2 : Hid (S (bodyL ps) = A) := by show _ = _; rw [← HA.out, hkl, shTo_all]
      have hAs2 : A.size ≤ 3000 := by omega
      obtain ⟨n, hn⟩ : ∃ n, Crc.sum A.data.toList = n := ⟨_, rfl⟩
      have hnl : n < 4294967296 := by rw [← hn]; exact Crc.sum_lt _
      have HSm := Lib.hid (fun W T => rsum_new A (by omega) W T)
      rw [hn] at HSm
      have HN := Lib.hid hn
      obtain ⟨D, hD⟩ : ∃ D, S (hexK 8 n) = D := ⟨_, rfl⟩
      have hDs : D.size ≤ 8 := by rw [← hD, S_size, hexK_length]; exact Nat.le_refl _
      have HDg := Lib.hid (fun W => rhex_as n hnl W)
      rw [hD] at HDg
      have HD := Lib.hid hD
      have hal := (Below.refl wr.heap.size wr).alloc (Nat.le_refl _) (.cells #[.string A] 9)
      obtain ⟨B1, hB1⟩ : ∃ c, A ++ ⟨#[115, 117, 109, 32]⟩ = c := ⟨_, rfl⟩
      have sB1 : B1.size ≤ A.size + 4 := by rw [← hB1, ByteArray.size_append]; exact Nat.add_le_add_left (by first | decide | assumption) _
      have rB1 := add_as (P := Tryz.prog) hB1 (by omega)
      obtain ⟨B2, hB2⟩ : ∃ c, B1 ++ D = c := ⟨_, rfl⟩
      have sB2 : B2.size ≤ B1.size + 8 := by rw [← hB2, ByteArray.size_append]; exact Nat.add_le_add_left (by first | decide | assumption) _
      have rB2 := add_as (P := Tryz.prog) hB2 (by omega)
      obtain ⟨B3, hB3⟩ : ∃ c, B2 ++ ⟨#[10]⟩ = c := ⟨_, rfl⟩
      have sB3 : B3.size ≤ B2.size + 1 := by rw [← hB3, ByteArray.size_append]; exact Nat.add_le_add_left (by first | decide | assumption) _
      have rB3 := add_as (P := Tryz.prog) hB3 (by omega)
      have hX : B3 = S (lockL ps) := by
        rw [← hB3, ← hB2, ← hB1, ← HD.out, ← HN.out, ← HA2.out]
        apply ByteArray.ext; apply Array.toList_inj.1; simp [S, lockL, sumL]
      have HX := Lib.hid hX
      clear hlt hkl hn hD hAs hAs2 hDs hnl hB1 hB2 hB3 hX
      go_wp2_with fail
      refine (HSm.out _ _).mono ?_
      rintro e w3 ⟨rfl, rfl⟩
      go_wp2_with fail
      refine (HDg.out _).mono ?_
      rintro e w4 ⟨rfl, rfl⟩
      have hb5 := below_then hb1 (below_then hb hal)
      clear hal
      go_wp2_with fail
      go_ret2
      exact ⟨by rw [HS.out, HX.out]; rfl, hb5⟩
end Go.Proofs.YtboajinaiceekaaGreatDoor
