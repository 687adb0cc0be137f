/- Locks: the reference's Update: a walk. -/
import Derived.Test.YtboajinaiceekaaGreatDoorLockRef3
import Derived.Test.YtboajinaiceekaaGreatDoorLockMath9
import Derived.Test.YtboajinaiceekaaGreatDoorSemRefC
namespace Go.Proofs.YtboajinaiceekaaGreatDoor
open Go.RowKit
theorem rcmpL_as (x y : V4) (r : Int) (h : V4.cmp x y = r) (w : World) (hp : x.p.size ≤ 300) (hp' : y.p.size ≤ 300) :
    Calls Tryz.prog 44 #[.agg #[.int .i64 x.a, .int .i64 x.b, .int .i64 x.c, .string x.p], .agg #[.int .i64 y.a, .int .i64 y.b, .int .i64 y.c, .string y.p]] w fun e w' => e = .returned (.int .i64 r) ∧ Below w.heap.size w w' := by
  subst h; exact refCmp_any _ _ _ _ _ _ _ _ w hp hp'
theorem PkS.drewn {bx o : Nat} {nm : ByteArray} {y : V4} {w0 W : World} (h : PkS bx o nm y w0 W) : PkS bx o nm y W.drew W.drew := by
  obtain ⟨h0, h1, h2, h3, h4, _⟩ := h
  exact ⟨by simpa using h0, by simpa using h1, by simpa using h2, by simpa using h3, by simpa using h4, Below.refl _ _⟩
theorem PkT.drewn {bx o : Nat} {nm : ByteArray} {y : V4} {bz q : Nat} {nn : ByteArray} {z : V4} {w0 W : World} (h : PkT bx o nm y bz q nn z w0 W) : PkT bx o nm y bz q nn z W.drew W.drew := ⟨h.1.drewn, h.2.drewn⟩
theorem keepF {P : Program} {f : FuncId} {args : Array Value} {v : Value} {w0 w : World} {b0 o0 b1 o1 b2 o2 b3 o3 b4 o4 b5 o5 b6 o6 b7 o7 b8 o8 b9 o9 : Nat} {x0 x1 x2 x3 x4 x5 x6 x7 x8 x9 : Value}
    (h : w.cell? ⟨b0, o0, none⟩ = some x0 ∧ w.cell? ⟨b1, o1, none⟩ = some x1 ∧ w.cell? ⟨b2, o2, none⟩ = some x2 ∧ w.cell? ⟨b3, o3, none⟩ = some x3 ∧ w.cell? ⟨b4, o4, none⟩ = some x4 ∧ w.cell? ⟨b5, o5, none⟩ = some x5 ∧ w.cell? ⟨b6, o6, none⟩ = some x6 ∧ w.cell? ⟨b7, o7, none⟩ = some x7 ∧ w.cell? ⟨b8, o8, none⟩ = some x8 ∧ w.cell? ⟨b9, o9, none⟩ = some x9 ∧ Below w0.heap.size w0 w)
    (hc : Calls P f args w fun e w' => e = .returned v ∧ Below w.heap.size w w') :
    Calls P f args w fun e w' => e = .returned v ∧ (w'.cell? ⟨b0, o0, none⟩ = some x0 ∧ w'.cell? ⟨b1, o1, none⟩ = some x1 ∧ w'.cell? ⟨b2, o2, none⟩ = some x2 ∧ w'.cell? ⟨b3, o3, none⟩ = some x3 ∧ w'.cell? ⟨b4, o4, none⟩ = some x4 ∧ w'.cell? ⟨b5, o5, none⟩ = some x5 ∧ w'.cell? ⟨b6, o6, none⟩ = some x6 ∧ w'.cell? ⟨b7, o7, none⟩ = some x7 ∧ w'.cell? ⟨b8, o8, none⟩ = some x8 ∧ w'.cell? ⟨b9, o9, none⟩ = some x9 ∧ Below w0.heap.size w0 w') := by
  obtain ⟨h0, h1, h2, h3, h4, h5, h6, h7, h8, h9, hb⟩ := h
  exact hc.mono fun _ _ ⟨he, h'⟩ => ⟨he, cell_on h0 h', cell_on h1 h', cell_on h2 h', cell_on h3 h', cell_on h4 h', cell_on h5 h', cell_on h6 h', cell_on h7 h', cell_on h8 h', cell_on h9 h', below_then hb h'⟩
def RuRel (ps qs : List Pik) (w : World) (v i k : Value) (wr : World) : Prop :=
  ∃ (j m : Nat) (A : ByteArray), j ≤ ps.length ∧ m ≤ qs.length ∧ i = .int .i64 (j : Int) ∧ k = .int .i64 (m : Int) ∧ v = .string A ∧ UpAt ps qs j m A.data.toList ∧ Below w.heap.size w wr
theorem less_names (x y : ByteArray) (b : Bool) (h : decide (x.data.toList < y.data.toList) = b) : Op.bytesLess x.toList y.toList = b := by
  rw [Lib.toList_data, Lib.toList_data, bLess]; exact h
set_option maxRecDepth 100000 in
set_option maxHeartbeats 8000000 in
theorem rupdate_any (v u : Value) (ps qs : List Pik) (w : World) (hv : Piks w v ps) (hu : Piks w u qs) (hp : ∀ x ∈ ps, x.v.p.size ≤ 300) (hq : ∀ x ∈ qs, x.v.p.size ≤ 300) :
    Calls Tryz.prog 17 #[v, u] w fun e w' => e = .returned (.tuple #[.string (S (updShow ps qs).1), .int .i64 (updShow ps qs).2]) ∧ Below w.heap.size w w' := by
  obtain ⟨a1, c1, rfl⟩ := hv.len
  obtain ⟨a2, c2, rfl⟩ := hu.len
  obtain ⟨mo, hmo⟩ : ∃ b, mayB ps = b := ⟨_, rfl⟩
  obtain ⟨mn, hmn⟩ : ∃ b, mayB qs = b := ⟨_, rfl⟩
  have HM1 : Hid (∀ W, Below w.heap.size w W → Calls Tryz.prog 24 #[.slice a1 ps.length c1] W fun e w' => e = .returned (.bool mo) ∧ Below w.heap.size w w') := fun W hW =>
    (rmay_as _ ps mo hmo W (hv.below hW (Nat.le_refl _)) hp).mono fun _ _ ⟨h1, h2⟩ => ⟨h1, below_then hW h2⟩
  have HM2 : Hid (∀ W, Below w.heap.size w W → Calls Tryz.prog 24 #[.slice a2 qs.length c2] W fun e w' => e = .returned (.bool mn) ∧ Below w.heap.size w w') := fun W hW =>
    (rmay_as _ qs mn hmn W (hu.below hW (Nat.le_refl _)) hq).mono fun _ _ ⟨h1, h2⟩ => ⟨h1, below_then hW h2⟩
  have HMo := Lib.hid hmo
  have HMn := Lib.hid hmn
  have HV := Lib.hid hv
  have HU := Lib.hid hu
  clear hv hu hp hq hmo hmn
  cases mo
  · have HS : Hid (updShow ps qs = ([], 370)) := by show _ = _; unfold updShow; rw [HMo.out]; rfl
    go_enter Tryz.func17, Tryz.ntmps17
    go_wp2_with fail
    refine (HM1.out _ (Below.refl _ _)).mono ?_
    rintro e w1 ⟨rfl, hb1⟩
    go_wp2_with fail
    go_ret2
    exact ⟨by rw [HS.out]; rfl, hb1⟩
  cases mn
  · have HS : Hid (updShow ps qs = ([], 370)) := by show _ = _; unfold updShow; rw [HMo.out, HMn.out]; rfl
    go_enter Tryz.func17, Tryz.ntmps17
    go_wp2_with fail
    refine (HM1.out _ (Below.refl _ _)).mono ?_
    rintro e w1 ⟨rfl, hb1⟩
    go_wp2_with fail
    refine (HM2.out _ hb1).mono ?_
    rintro e w2 ⟨rfl, hb2⟩
    go_wp2_with fail
    go_ret2
    exact ⟨by rw [HS.out]; rfl, hb2⟩
  have HS : Hid (updShow ps qs = (mergeL ps qs, 0)) := by show _ = _; unfold updShow; rw [HMo.out, HMn.out, upd_merge HMo.out HMn.out]; rfl
  have hp40 := (may_mem HMo.out).2
  have hq40 := (may_mem HMn.out).2
  have HPo := Lib.hid (may_mem HMo.out).1
  have HQo := Lib.hid (may_mem HMn.out).1
  have HUl : Hid ((mergeL ps qs).length ≤ 10400) := by
    show _ ≤ _
    have := merge_len ps qs HPo.out HQo.out
    omega
  have hpz : ∀ (x : Pik), x.ok = true → x.name.size ≤ 24 ∧ x.v.ok = true ∧ x.v.p.size ≤ 300 := fun x hx => by
    obtain ⟨g1, g2⟩ := pik_parts' hx
    have h1 := (name_len g1).2.1
    have h2 := (verOk_bounds g2).2.2.2.2.2.2.1
    refine ⟨by rw [Lib.size_eq]; exact h1, g2, by rw [Lib.size_eq]; omega⟩
  have HPz := Lib.hid hpz
  clear hpz
  go_enter Tryz.func17, Tryz.ntmps17
  go_wp2_with fail
  refine (HM1.out _ (Below.refl _ _)).mono ?_
  rintro e w1 ⟨rfl, hb1⟩
  go_wp2_with fail
  refine (HM2.out _ hb1).mono ?_
  rintro e w2 ⟨rfl, hb2⟩
  go_wp2_with fail
  go_loopw [6, 7, 8] (fun v i k wr => RuRel ps qs w v i k wr) (fun _ i k _ => ps.length + qs.length - ((intOf i).toNat + (intOf k).toNat))
  case atStart => exact ⟨0, 0, _, Nat.zero_le _, Nat.zero_le _, rfl, rfl, rfl, up_zero ps qs, hb2⟩
  case round =>
    obtain ⟨i, k, A, hi, hk, rfl, rfl, rfl, hup, hb⟩ := hrel
    have hAs : A.size ≤ 10400 := by rw [Lib.size_eq]; exact up_len hup HUl.out
    have HUp := Lib.hid hup
    have j0 : (0 : Int) ≤ (i : Int) := by omega
    have j1 : (0 : Int) ≤ (k : Int) := by omega
    have hdr := hb.drew
    have HB := Lib.hid hb
    have HD := Lib.hid hdr
    clear hup hb hdr
    by_cases hke : k = qs.length
    · have q1 : (((k : Int) == (qs.length : Int))) = true := by rw [hke]; exact beq_self_eq_true _
      have q1' : (k == qs.length) = true := by rw [hke]; exact beq_self_eq_true _
      have q2 : decide ((k : Int) < (qs.length : Int)) = false := decide_eq_false (by omega)
      have q2' : decide (k < qs.length) = false := decide_eq_false (by omega)
      have HKe := Lib.hid hke
      clear hke
      by_cases hilt : i < ps.length
      · have q3 : decide ((i : Int) < (ps.length : Int)) = true := decide_eq_true (by omega)
        have q3' : decide (i < ps.length) = true := decide_eq_true hilt
        have j2 : (i : Int) < (ps.length : Int) := by omega
        obtain ⟨bx, ox, rfl, hst⟩ := Piks.pkS HV.out HB.out hilt
        have hst := hst.drew
        obtain ⟨nm, y, hye⟩ : ∃ nm y, ps[i] = ⟨nm, y⟩ := ⟨_, _, rfl⟩
        obtain ⟨z1, z2, z3⟩ := HPz.out _ (HPo.out _ (List.getElem_mem hilt))
        rw [hye] at hst z1 z2 z3
        simp only at hst z1 z2 z3
        obtain ⟨T, hT⟩ : ∃ T, S y.show = T := ⟨_, rfl⟩
        have hTs : T.size ≤ 45 := by rw [← hT, S_size]; exact vshow_len z2
        have HT := Lib.hid (fun W => rversion_as y z2 T hT W)
        obtain ⟨A1, hA1⟩ : ∃ c, A ++ ⟨#[45, 32]⟩ = c := ⟨_, rfl⟩
        have sA1 : A1.size ≤ A.size + 2 := by rw [← hA1, ByteArray.size_append]; exact Nat.add_le_add_left (by first | decide | assumption) _
        have rA1 := add_as (P := Tryz.prog) hA1 (by omega)
        obtain ⟨A2, hA2⟩ : ∃ c, A1 ++ nm = c := ⟨_, rfl⟩
        have sA2 : A2.size ≤ A1.size + 24 := by rw [← hA2, ByteArray.size_append]; exact Nat.add_le_add_left (by first | decide | assumption) _
        have rA2 := add_as (P := Tryz.prog) hA2 (by omega)
        obtain ⟨A3, hA3⟩ : ∃ c, A2 ++ ⟨#[32]⟩ = c := ⟨_, rfl⟩
        have sA3 : A3.size ≤ A2.size + 1 := by rw [← hA3, ByteArray.size_append]; exact Nat.add_le_add_left (by first | decide | assumption) _
        have rA3 := add_as (P := Tryz.prog) hA3 (by omega)
        obtain ⟨A4, hA4⟩ : ∃ c, A3 ++ T = c := ⟨_, rfl⟩
        have sA4 : A4.size ≤ A3.size + 45 := by rw [← hA4, ByteArray.size_append]; exact Nat.add_le_add_left (by first | decide | assumption) _
        have rA4 := add_as (P := Tryz.prog) hA4 (by omega)
        obtain ⟨A5, hA5⟩ : ∃ c, A4 ++ ⟨#[10]⟩ = c := ⟨_, rfl⟩
        have sA5 : A5.size ≤ A4.size + 1 := by rw [← hA5, ByteArray.size_append]; exact Nat.add_le_add_left (by first | decide | assumption) _
        have rA5 := add_as (P := Tryz.prog) hA5 (by omega)
        have HN : Hid (UpAt ps qs (i + 1) k A5.data.toList) := by
          have h := up_minus HUp.out hilt (.inl HKe.out)
          rw [hye] at h
          have e : A5.data.toList = A.data.toList ++ minusL ⟨nm, y⟩ := by rw [← hA5, ← hA4, ← hA3, ← hA2, ← hA1, ← hT]; simp [S, minusL, Pik.line, Pik.nm]
          rw [e]; exact h
        clear hA1 hA2 hA3 hA4 hA5 hye hT
        go_wp2_with fail
        refine wp_region_held_drew (S := (fun W => PkS bx (ox + i * 5) nm y wr.drew W)) (by kernel_rfl) (hst) (fun hHeld => ?_)
        refine wpAnyH_take (i := 0) (v := ?_) rfl (by kernel_rfl) (by kernel_rfl) (by kernel_rfl) (fun _ _ _ h => h) (Or.inl ⟨by kernel_rfl, ?_⟩) hHeld ?_
        rotate_left
        · (rintro W ⟨e0, e1, e2, e3, e4, _⟩; go_simp; (try with_reducible rfl))
        (try simp only [Act.put, List.getElem_toArray, List.getElem_cons_zero, List.setIfInBounds_toArray, List.set_cons_succ, List.set_cons_zero])
        refine wpAnyH_take (i := 1) (v := ?_) rfl (by kernel_rfl) (by kernel_rfl) (by kernel_rfl) (fun _ _ _ h => h) (Or.inl ⟨by kernel_rfl, ?_⟩) hHeld ?_
        rotate_left
        · (rintro W ⟨e0, e1, e2, e3, e4, _⟩; go_simp; (try with_reducible rfl))
        (try simp only [Act.put, List.getElem_toArray, List.getElem_cons_succ, List.getElem_cons_zero, List.setIfInBounds_toArray, List.set_cons_succ, List.set_cons_zero])
        refine wpAnyH_take (i := 2) (v := ?_) rfl (by kernel_rfl) (by kernel_rfl) (by kernel_rfl) (fun _ _ _ h => h) (Or.inl ⟨by kernel_rfl, ?_⟩) hHeld ?_
        rotate_left
        · (rintro W ⟨e0, e1, e2, e3, e4, _⟩; go_simp; (try with_reducible rfl))
        (try simp only [Act.put, List.getElem_toArray, List.getElem_cons_succ, List.getElem_cons_zero, List.setIfInBounds_toArray, List.set_cons_succ, List.set_cons_zero])
        refine wpAnyH_take (i := 3) (v := ?_) rfl (by kernel_rfl) (by kernel_rfl) (by kernel_rfl) (fun _ _ _ h => h) (Or.inl ⟨by kernel_rfl, ?_⟩) hHeld ?_
        rotate_left
        · (rintro W ⟨e0, e1, e2, e3, e4, _⟩; go_simp; (try with_reducible rfl))
        (try simp only [Act.put, List.getElem_toArray, List.getElem_cons_succ, List.getElem_cons_zero, List.setIfInBounds_toArray, List.set_cons_succ, List.set_cons_zero])
        refine wpAnyH_take (i := 4) (v := ?_) rfl (by kernel_rfl) (by kernel_rfl) (by kernel_rfl) (fun _ _ _ h => h) (Or.inl ⟨by kernel_rfl, ?_⟩) hHeld ?_
        rotate_left
        · (rintro W ⟨e0, e1, e2, e3, e4, _⟩; go_simp; (try with_reducible rfl))
        (try simp only [Act.put, List.getElem_toArray, List.getElem_cons_succ, List.getElem_cons_zero, List.setIfInBounds_toArray, List.set_cons_succ, List.set_cons_zero])
        refine wpAnyH_take (i := 5) (v := undef) rfl (by kernel_rfl) (by kernel_rfl) (by kernel_rfl) (fun _ _ _ h => h) (Or.inr ⟨by kernel_rfl, rfl⟩) hHeld ?_
        (try simp only [Act.put, List.getElem_toArray, List.getElem_cons_succ, List.getElem_cons_zero, List.setIfInBounds_toArray, List.set_cons_succ, List.set_cons_zero])
        refine wpAnyH_take (i := 6) (v := undef) rfl (by kernel_rfl) (by kernel_rfl) (by kernel_rfl) (fun _ _ _ h => h) (Or.inr ⟨by kernel_rfl, rfl⟩) hHeld ?_
        (try simp only [Act.put, List.getElem_toArray, List.getElem_cons_succ, List.getElem_cons_zero, List.setIfInBounds_toArray, List.set_cons_succ, List.set_cons_zero])
        refine wpAnyH_take (i := 7) (v := undef) rfl (by kernel_rfl) (by kernel_rfl) (by kernel_rfl) (fun _ _ _ h => h) (Or.inr ⟨by kernel_rfl, rfl⟩) hHeld ?_
        (try simp only [Act.put, List.getElem_toArray, List.getElem_cons_succ, List.getElem_cons_zero, List.setIfInBounds_toArray, List.set_cons_succ, List.set_cons_zero])
        refine wpAnyH_take (i := 8) (v := undef) rfl (by kernel_rfl) (by kernel_rfl) (by kernel_rfl) (fun _ _ _ h => h) (Or.inr ⟨by kernel_rfl, rfl⟩) hHeld ?_
        (try simp only [Act.put, List.getElem_toArray, List.getElem_cons_succ, List.getElem_cons_zero, List.setIfInBounds_toArray, List.set_cons_succ, List.set_cons_zero])
        refine wpAnyH_take (i := 9) (v := undef) rfl (by kernel_rfl) (by kernel_rfl) (by kernel_rfl) (fun _ _ _ h => h) (Or.inr ⟨by kernel_rfl, rfl⟩) hHeld ?_
        (try simp only [Act.put, List.getElem_toArray, List.getElem_cons_succ, List.getElem_cons_zero, List.setIfInBounds_toArray, List.set_cons_succ, List.set_cons_zero])
        refine wpAnyH_take (i := 10) (v := undef) rfl (by kernel_rfl) (by kernel_rfl) (by kernel_rfl) (fun _ _ _ h => h) (Or.inr ⟨by kernel_rfl, rfl⟩) hHeld ?_
        (try simp only [Act.put, List.getElem_toArray, List.getElem_cons_succ, List.getElem_cons_zero, List.setIfInBounds_toArray, List.set_cons_succ, List.set_cons_zero])
        refine wpAnyH_take (i := 11) (v := undef) rfl (by kernel_rfl) (by kernel_rfl) (by kernel_rfl) (fun _ _ _ h => h) (Or.inr ⟨by kernel_rfl, rfl⟩) hHeld ?_
        (try simp only [Act.put, List.getElem_toArray, List.getElem_cons_succ, List.getElem_cons_zero, List.setIfInBounds_toArray, List.set_cons_succ, List.set_cons_zero])
        refine wpAnyH_take (i := 12) (v := undef) rfl (by kernel_rfl) (by kernel_rfl) (by kernel_rfl) (fun _ _ _ h => h) (Or.inr ⟨by kernel_rfl, rfl⟩) hHeld ?_
        (try simp only [Act.put, List.getElem_toArray, List.getElem_cons_succ, List.getElem_cons_zero, List.setIfInBounds_toArray, List.set_cons_succ, List.set_cons_zero])
        refine wpAnyH_take (i := 13) (v := undef) rfl (by kernel_rfl) (by kernel_rfl) (by kernel_rfl) (fun _ _ _ h => h) (Or.inr ⟨by kernel_rfl, rfl⟩) hHeld ?_
        (try simp only [Act.put, List.getElem_toArray, List.getElem_cons_succ, List.getElem_cons_zero, List.setIfInBounds_toArray, List.set_cons_succ, List.set_cons_zero])
        refine wpAnyH_take (i := 14) (v := undef) rfl (by kernel_rfl) (by kernel_rfl) (by kernel_rfl) (fun _ _ _ h => h) (Or.inr ⟨by kernel_rfl, rfl⟩) hHeld ?_
        (try simp only [Act.put, List.getElem_toArray, List.getElem_cons_succ, List.getElem_cons_zero, List.setIfInBounds_toArray, List.set_cons_succ, List.set_cons_zero])
        refine wpAnyH_take (i := 15) (v := undef) rfl (by kernel_rfl) (by kernel_rfl) (by kernel_rfl) (fun _ _ _ h => h) (Or.inr ⟨by kernel_rfl, rfl⟩) hHeld ?_
        (try simp only [Act.put, List.getElem_toArray, List.getElem_cons_succ, List.getElem_cons_zero, List.setIfInBounds_toArray, List.set_cons_succ, List.set_cons_zero])
        refine wpAnyH_take (i := 16) (v := undef) rfl (by kernel_rfl) (by kernel_rfl) (by kernel_rfl) (fun _ _ _ h => h) (Or.inr ⟨by kernel_rfl, rfl⟩) hHeld ?_
        (try simp only [Act.put, List.getElem_toArray, List.getElem_cons_succ, List.getElem_cons_zero, List.setIfInBounds_toArray, List.set_cons_succ, List.set_cons_zero])
        refine wpAnyH_take (i := 17) (v := undef) rfl (by kernel_rfl) (by kernel_rfl) (by kernel_rfl) (fun _ _ _ h => h) (Or.inr ⟨by kernel_rfl, rfl⟩) hHeld ?_
        (try simp only [Act.put, List.getElem_toArray, List.getElem_cons_succ, List.getElem_cons_zero, List.setIfInBounds_toArray, List.set_cons_succ, List.set_cons_zero])
        refine wpAnyH_take (i := 18) (v := undef) rfl (by kernel_rfl) (by kernel_rfl) (by kernel_rfl) (fun _ _ _ h => h) (Or.inr ⟨by kernel_rfl, rfl⟩) hHeld ?_
        (try simp only [Act.put, List.getElem_toArray, List.getElem_cons_succ, List.getElem_cons_zero, List.setIfInBounds_toArray, List.set_cons_succ, List.set_cons_zero])
        refine wpAnyH_take (i := 19) (v := undef) rfl (by kernel_rfl) (by kernel_rfl) (by kernel_rfl) (fun _ _ _ h => h) (Or.inr ⟨by kernel_rfl, rfl⟩) hHeld ?_
        (try simp only [Act.put, List.getElem_toArray, List.getElem_cons_succ, List.getElem_cons_zero, List.setIfInBounds_toArray, List.set_cons_succ, List.set_cons_zero])
        refine wpAnyH_take (i := 20) (v := undef) rfl (by kernel_rfl) (by kernel_rfl) (by kernel_rfl) (fun _ _ _ h => h) (Or.inr ⟨by kernel_rfl, rfl⟩) hHeld ?_
        (try simp only [Act.put, List.getElem_toArray, List.getElem_cons_succ, List.getElem_cons_zero, List.setIfInBounds_toArray, List.set_cons_succ, List.set_cons_zero])
        refine wpAnyH_take (i := 21) (v := undef) rfl (by kernel_rfl) (by kernel_rfl) (by kernel_rfl) (fun _ _ _ h => h) (Or.inr ⟨by kernel_rfl, rfl⟩) hHeld ?_
        (try simp only [Act.put, List.getElem_toArray, List.getElem_cons_succ, List.getElem_cons_zero, List.setIfInBounds_toArray, List.set_cons_succ, List.set_cons_zero])
        refine wpAnyH_take (i := 22) (v := ?_) rfl (by kernel_rfl) (by kernel_rfl) (by kernel_rfl) (fun _ _ _ h => h) (Or.inl ⟨by kernel_rfl, ?_⟩) hHeld ?_
        rotate_left
        · (rintro W ⟨e0, e1, e2, e3, e4, _⟩; go_simp; (try with_reducible rfl))
        (try simp only [Act.put, List.getElem_toArray, List.getElem_cons_succ, List.getElem_cons_zero, List.setIfInBounds_toArray, List.set_cons_succ, List.set_cons_zero])
        refine wpAnyH_done (by kernel_rfl) ?_ _
        have hb6 := below_then HD.out hHeld.2.2.2.2.2
        have hst6 := PkS.drewn hHeld
        clear hHeld
        go_wp2_with fail
        refine wp_region_held_drew (S := (fun W => PkS bx (ox + i * 5) nm y _ W)) (by kernel_rfl) (hst6) (fun hHeld => ?_)
        refine wpAnyH_take (i := 0) (v := ?_) rfl (by kernel_rfl) (by kernel_rfl) (by kernel_rfl) (fun _ _ _ h => h) (Or.inl ⟨by kernel_rfl, ?_⟩) hHeld ?_
        rotate_left
        · (rintro W ⟨e0, e1, e2, e3, e4, _⟩; go_simp; (try with_reducible rfl))
        (try simp only [Act.put, List.getElem_toArray, List.getElem_cons_zero, List.setIfInBounds_toArray, List.set_cons_succ, List.set_cons_zero])
        refine wpAnyH_take (i := 1) (v := ?_) rfl (by kernel_rfl) (by kernel_rfl) (by kernel_rfl) (fun _ _ _ h => h) (Or.inl ⟨by kernel_rfl, ?_⟩) hHeld ?_
        rotate_left
        · (rintro W ⟨e0, e1, e2, e3, e4, _⟩; go_simp; (try with_reducible rfl))
        (try simp only [Act.put, List.getElem_toArray, List.getElem_cons_succ, List.getElem_cons_zero, List.setIfInBounds_toArray, List.set_cons_succ, List.set_cons_zero])
        refine wpAnyH_take (i := 2) (v := ?_) rfl (by kernel_rfl) (by kernel_rfl) (by kernel_rfl) (fun _ _ _ h => h) (Or.inl ⟨by kernel_rfl, ?_⟩) hHeld ?_
        rotate_left
        · (rintro W ⟨e0, e1, e2, e3, e4, _⟩; go_simp; (try with_reducible rfl))
        (try simp only [Act.put, List.getElem_toArray, List.getElem_cons_succ, List.getElem_cons_zero, List.setIfInBounds_toArray, List.set_cons_succ, List.set_cons_zero])
        refine wpAnyH_take (i := 3) (v := ?_) rfl (by kernel_rfl) (by kernel_rfl) (by kernel_rfl) (fun _ _ _ h => h) (Or.inl ⟨by kernel_rfl, ?_⟩) hHeld ?_
        rotate_left
        · (rintro W ⟨e0, e1, e2, e3, e4, _⟩; go_simp; (try with_reducible rfl))
        (try simp only [Act.put, List.getElem_toArray, List.getElem_cons_succ, List.getElem_cons_zero, List.setIfInBounds_toArray, List.set_cons_succ, List.set_cons_zero])
        refine wpAnyH_take (i := 4) (v := ?_) rfl (by kernel_rfl) (by kernel_rfl) (by kernel_rfl) (fun _ _ _ h => h) (Or.inl ⟨by kernel_rfl, ?_⟩) hHeld ?_
        rotate_left
        · (rintro W ⟨e0, e1, e2, e3, e4, _⟩; go_simp; (try with_reducible rfl))
        (try simp only [Act.put, List.getElem_toArray, List.getElem_cons_succ, List.getElem_cons_zero, List.setIfInBounds_toArray, List.set_cons_succ, List.set_cons_zero])
        refine wpAnyH_take (i := 5) (v := ?_) rfl (by kernel_rfl) (by kernel_rfl) (by kernel_rfl) (fun _ _ _ h => h) (Or.inl ⟨by kernel_rfl, ?_⟩) hHeld ?_
        rotate_left
        · (rintro W ⟨e0, e1, e2, e3, e4, _⟩; go_simp; (try with_reducible rfl))
        (try simp only [Act.put, List.getElem_toArray, List.getElem_cons_succ, List.getElem_cons_zero, List.setIfInBounds_toArray, List.set_cons_succ, List.set_cons_zero])
        refine wpAnyH_take (i := 6) (v := ?_) rfl (by kernel_rfl) (by kernel_rfl) (by kernel_rfl) (fun _ _ _ h => h) (Or.inl ⟨by kernel_rfl, ?_⟩) hHeld ?_
        rotate_left
        · (rintro W ⟨e0, e1, e2, e3, e4, _⟩; go_simp; (try with_reducible rfl))
        (try simp only [Act.put, List.getElem_toArray, List.getElem_cons_succ, List.getElem_cons_zero, List.setIfInBounds_toArray, List.set_cons_succ, List.set_cons_zero])
        refine wpAnyH_take (i := 7) (v := ?_) rfl (by kernel_rfl) (by kernel_rfl) (by kernel_rfl) (fun _ _ _ h => h) (Or.inl ⟨by kernel_rfl, ?_⟩) hHeld ?_
        rotate_left
        · (rintro W ⟨e0, e1, e2, e3, e4, _⟩; go_simp; (try with_reducible rfl))
        (try simp only [Act.put, List.getElem_toArray, List.getElem_cons_succ, List.getElem_cons_zero, List.setIfInBounds_toArray, List.set_cons_succ, List.set_cons_zero])
        refine wpAnyH_take (i := 8) (v := ?_) rfl (by kernel_rfl) (by kernel_rfl) (by kernel_rfl) (fun _ _ _ h => h) (Or.inl ⟨by kernel_rfl, ?_⟩) hHeld ?_
        rotate_left
        · (rintro W ⟨e0, e1, e2, e3, e4, _⟩; go_simp; (try with_reducible rfl))
        (try simp only [Act.put, List.getElem_toArray, List.getElem_cons_succ, List.getElem_cons_zero, List.setIfInBounds_toArray, List.set_cons_succ, List.set_cons_zero])
        refine wpAnyH_take (i := 9) (v := ?_) rfl (by kernel_rfl) (by kernel_rfl) (by kernel_rfl) (fun _ _ _ h => h) (Or.inl ⟨by kernel_rfl, ?_⟩) hHeld ?_
        rotate_left
        · (rintro W ⟨e0, e1, e2, e3, e4, _⟩; go_simp; (try with_reducible rfl))
        (try simp only [Act.put, List.getElem_toArray, List.getElem_cons_succ, List.getElem_cons_zero, List.setIfInBounds_toArray, List.set_cons_succ, List.set_cons_zero])
        refine wpAnyH_take (i := 10) (v := ?_) rfl (by kernel_rfl) (by kernel_rfl) (by kernel_rfl) (fun _ _ _ h => h) (Or.inl ⟨by kernel_rfl, ?_⟩) hHeld ?_
        rotate_left
        · (rintro W ⟨e0, e1, e2, e3, e4, _⟩; go_simp; (try with_reducible rfl))
        (try simp only [Act.put, List.getElem_toArray, List.getElem_cons_succ, List.getElem_cons_zero, List.setIfInBounds_toArray, List.set_cons_succ, List.set_cons_zero])
        refine wpAnyH_take (i := 11) (v := ?_) rfl (by kernel_rfl) (by kernel_rfl) (by kernel_rfl) (fun _ _ _ h => h) (Or.inl ⟨by kernel_rfl, ?_⟩) hHeld ?_
        rotate_left
        · (rintro W ⟨e0, e1, e2, e3, e4, _⟩; go_simp; (try with_reducible rfl))
        (try simp only [Act.put, List.getElem_toArray, List.getElem_cons_succ, List.getElem_cons_zero, List.setIfInBounds_toArray, List.set_cons_succ, List.set_cons_zero])
        refine wpAnyH_take (i := 12) (v := ?_) rfl (by kernel_rfl) (by kernel_rfl) (by kernel_rfl) (fun _ _ _ h => h) (Or.inl ⟨by kernel_rfl, ?_⟩) hHeld ?_
        rotate_left
        · (rintro W ⟨e0, e1, e2, e3, e4, _⟩; go_simp; (try with_reducible rfl))
        (try simp only [Act.put, List.getElem_toArray, List.getElem_cons_succ, List.getElem_cons_zero, List.setIfInBounds_toArray, List.set_cons_succ, List.set_cons_zero])
        refine wpAnyH_take (i := 13) (v := ?_) rfl (by kernel_rfl) (by kernel_rfl) (by kernel_rfl) (fun _ _ _ h => h) (Or.inl ⟨by kernel_rfl, ?_⟩) hHeld ?_
        rotate_left
        · (rintro W ⟨e0, e1, e2, e3, e4, _⟩; go_simp; (try with_reducible rfl))
        (try simp only [Act.put, List.getElem_toArray, List.getElem_cons_succ, List.getElem_cons_zero, List.setIfInBounds_toArray, List.set_cons_succ, List.set_cons_zero])
        refine wpAnyH_ready (rs := [14]) (by kernel_rfl) (by simp) ?_
        refine AllReadyH.cons rfl (fun K hK => ?_) AllReadyH.nil
        go_simp
        refine (keepS PkS.on hHeld (HT.out _)).mono ?_
        rintro e w5 ⟨rfl, hk5⟩
        refine hK.out _ _ (hk5) (fun hHeld => ?_)
        clear hK K
        (try simp only [Act.put, List.getElem_toArray, List.getElem_cons_succ, List.getElem_cons_zero, List.setIfInBounds_toArray, List.set_cons_succ, List.set_cons_zero])
        refine wpAnyH_take (i := 15) (v := ?_) rfl (by kernel_rfl) (by kernel_rfl) (by kernel_rfl) (fun _ _ _ h => h) (Or.inl ⟨by kernel_rfl, ?_⟩) hHeld ?_
        rotate_left
        · (rintro W ⟨e0, e1, e2, e3, e4, _⟩; go_simp; (try with_reducible rfl))
        (try simp only [Act.put, List.getElem_toArray, List.getElem_cons_succ, List.getElem_cons_zero, List.setIfInBounds_toArray, List.set_cons_succ, List.set_cons_zero])
        refine wpAnyH_take (i := 16) (v := ?_) rfl (by kernel_rfl) (by kernel_rfl) (by kernel_rfl) (fun _ _ _ h => h) (Or.inl ⟨by kernel_rfl, ?_⟩) hHeld ?_
        rotate_left
        · (rintro W ⟨e0, e1, e2, e3, e4, _⟩; go_simp; (try with_reducible rfl))
        (try simp only [Act.put, List.getElem_toArray, List.getElem_cons_succ, List.getElem_cons_zero, List.setIfInBounds_toArray, List.set_cons_succ, List.set_cons_zero])
        refine wpAnyH_take (i := 17) (v := ?_) rfl (by kernel_rfl) (by kernel_rfl) (by kernel_rfl) (fun _ _ _ h => h) (Or.inl ⟨by kernel_rfl, ?_⟩) hHeld ?_
        rotate_left
        · (rintro W ⟨e0, e1, e2, e3, e4, _⟩; go_simp; (try with_reducible rfl))
        (try simp only [Act.put, List.getElem_toArray, List.getElem_cons_succ, List.getElem_cons_zero, List.setIfInBounds_toArray, List.set_cons_succ, List.set_cons_zero])
        refine wpAnyH_done (by kernel_rfl) ?_ _
        have hbF := below_then hb6.drew hHeld.2.2.2.2.2
        clear hHeld
        go_wp2_with fail
        go_roundw
        case rel => exact ⟨i + 1, k, _, hilt, hk, by go_num, rfl, rfl, HN.out, hbF⟩
        case measure => simp [intOf]; omega
      · have q3 : decide ((i : Int) < (ps.length : Int)) = false := decide_eq_false (by omega)
        have q3' : decide (i < ps.length) = false := decide_eq_false hilt
        have HE : Hid (A.data.toList = mergeL ps qs) := up_end HUp.out (by omega) HKe.out
        have HBb := HB.out
        clear hilt
        go_wp2_with fail
        go_ret2
        refine ⟨?_, HBb⟩
        rw [HS.out, ← HE.out, show S A.data.toList = A from rfl]; rfl
    have hklt : k < qs.length := by omega
    have q1 : (((k : Int) == (qs.length : Int))) = false := by rw [beq_eq_false_iff_ne]; omega
    have q1' : (k == qs.length) = false := by rw [beq_eq_false_iff_ne]; omega
    have q2 : decide ((k : Int) < (qs.length : Int)) = true := decide_eq_true (by omega)
    have q2' : decide (k < qs.length) = true := decide_eq_true hklt
    have j3 : (k : Int) < (qs.length : Int) := by omega
    obtain ⟨bz, oz, rfl, hsu⟩ := Piks.pkS HU.out HB.out hklt
    have hsu := hsu.drew
    obtain ⟨nn, z, hze⟩ : ∃ nn z, qs[k] = ⟨nn, z⟩ := ⟨_, _, rfl⟩
    obtain ⟨y1, y2, y3⟩ := HPz.out _ (HQo.out _ (List.getElem_mem hklt))
    rw [hze] at hsu y1 y2 y3
    simp only at hsu y1 y2 y3
    obtain ⟨U, hU⟩ : ∃ U, S z.show = U := ⟨_, rfl⟩
    have hUs : U.size ≤ 45 := by rw [← hU, S_size]; exact vshow_len y2
    have HU' := Lib.hid (fun W => rversion_as z y2 U hU W)
    clear hke
    by_cases hie : i = ps.length
    · have q4 : (((i : Int) == (ps.length : Int))) = true := by rw [hie]; exact beq_self_eq_true _
      have q4' : (i == ps.length) = true := by rw [hie]; exact beq_self_eq_true _
      have q5 : decide ((i : Int) < (ps.length : Int)) = false := decide_eq_false (by omega)
      have q5' : decide (i < ps.length) = false := decide_eq_false (by omega)
      have HIe := Lib.hid hie
      clear hie
      obtain ⟨A1, hA1⟩ : ∃ c, A ++ ⟨#[43, 32]⟩ = c := ⟨_, rfl⟩
      have sA1 : A1.size ≤ A.size + 2 := by rw [← hA1, ByteArray.size_append]; exact Nat.add_le_add_left (by first | decide | assumption) _
      have rA1 := add_as (P := Tryz.prog) hA1 (by omega)
      obtain ⟨A2, hA2⟩ : ∃ c, A1 ++ nn = c := ⟨_, rfl⟩
      have sA2 : A2.size ≤ A1.size + 24 := by rw [← hA2, ByteArray.size_append]; exact Nat.add_le_add_left (by first | decide | assumption) _
      have rA2 := add_as (P := Tryz.prog) hA2 (by omega)
      obtain ⟨A3, hA3⟩ : ∃ c, A2 ++ ⟨#[32]⟩ = c := ⟨_, rfl⟩
      have sA3 : A3.size ≤ A2.size + 1 := by rw [← hA3, ByteArray.size_append]; exact Nat.add_le_add_left (by first | decide | assumption) _
      have rA3 := add_as (P := Tryz.prog) hA3 (by omega)
      obtain ⟨A4, hA4⟩ : ∃ c, A3 ++ U = c := ⟨_, rfl⟩
      have sA4 : A4.size ≤ A3.size + 45 := by rw [← hA4, ByteArray.size_append]; exact Nat.add_le_add_left (by first | decide | assumption) _
      have rA4 := add_as (P := Tryz.prog) hA4 (by omega)
      obtain ⟨A5, hA5⟩ : ∃ c, A4 ++ ⟨#[10]⟩ = c := ⟨_, rfl⟩
      have sA5 : A5.size ≤ A4.size + 1 := by rw [← hA5, ByteArray.size_append]; exact Nat.add_le_add_left (by first | decide | assumption) _
      have rA5 := add_as (P := Tryz.prog) hA5 (by omega)
      have HN : Hid (UpAt ps qs i (k + 1) A5.data.toList) := by
        have h := up_plus HUp.out hklt (.inl HIe.out)
        rw [hze] at h
        have e : A5.data.toList = A.data.toList ++ plusL ⟨nn, z⟩ := by rw [← hA5, ← hA4, ← hA3, ← hA2, ← hA1, ← hU]; simp [S, plusL, Pik.line, Pik.nm]
        rw [e]; exact h
      clear hA1 hA2 hA3 hA4 hA5 hze hU
      go_wp2_with fail
      refine wp_region_held_drew (S := (fun W => PkS bz (oz + k * 5) nn z wr.drew W)) (by kernel_rfl) (hsu) (fun hHeld => ?_)
      refine wpAnyH_take (i := 0) (v := ?_) rfl (by kernel_rfl) (by kernel_rfl) (by kernel_rfl) (fun _ _ _ h => h) (Or.inl ⟨by kernel_rfl, ?_⟩) hHeld ?_
      rotate_left
      · (rintro W ⟨e0, e1, e2, e3, e4, _⟩; go_simp; (try with_reducible rfl))
      (try simp only [Act.put, List.getElem_toArray, List.getElem_cons_zero, List.setIfInBounds_toArray, List.set_cons_succ, List.set_cons_zero])
      refine wpAnyH_take (i := 1) (v := ?_) rfl (by kernel_rfl) (by kernel_rfl) (by kernel_rfl) (fun _ _ _ h => h) (Or.inl ⟨by kernel_rfl, ?_⟩) hHeld ?_
      rotate_left
      · (rintro W ⟨e0, e1, e2, e3, e4, _⟩; go_simp; (try with_reducible rfl))
      (try simp only [Act.put, List.getElem_toArray, List.getElem_cons_succ, List.getElem_cons_zero, List.setIfInBounds_toArray, List.set_cons_succ, List.set_cons_zero])
      refine wpAnyH_take (i := 2) (v := ?_) rfl (by kernel_rfl) (by kernel_rfl) (by kernel_rfl) (fun _ _ _ h => h) (Or.inl ⟨by kernel_rfl, ?_⟩) hHeld ?_
      rotate_left
      · (rintro W ⟨e0, e1, e2, e3, e4, _⟩; go_simp; (try with_reducible rfl))
      (try simp only [Act.put, List.getElem_toArray, List.getElem_cons_succ, List.getElem_cons_zero, List.setIfInBounds_toArray, List.set_cons_succ, List.set_cons_zero])
      refine wpAnyH_take (i := 3) (v := ?_) rfl (by kernel_rfl) (by kernel_rfl) (by kernel_rfl) (fun _ _ _ h => h) (Or.inl ⟨by kernel_rfl, ?_⟩) hHeld ?_
      rotate_left
      · (rintro W ⟨e0, e1, e2, e3, e4, _⟩; go_simp; (try with_reducible rfl))
      (try simp only [Act.put, List.getElem_toArray, List.getElem_cons_succ, List.getElem_cons_zero, List.setIfInBounds_toArray, List.set_cons_succ, List.set_cons_zero])
      refine wpAnyH_take (i := 4) (v := ?_) rfl (by kernel_rfl) (by kernel_rfl) (by kernel_rfl) (fun _ _ _ h => h) (Or.inl ⟨by kernel_rfl, ?_⟩) hHeld ?_
      rotate_left
      · (rintro W ⟨e0, e1, e2, e3, e4, _⟩; go_simp; (try with_reducible rfl))
      (try simp only [Act.put, List.getElem_toArray, List.getElem_cons_succ, List.getElem_cons_zero, List.setIfInBounds_toArray, List.set_cons_succ, List.set_cons_zero])
      refine wpAnyH_take (i := 5) (v := ?_) rfl (by kernel_rfl) (by kernel_rfl) (by kernel_rfl) (fun _ _ _ h => h) (Or.inl ⟨by kernel_rfl, ?_⟩) hHeld ?_
      rotate_left
      · (rintro W ⟨e0, e1, e2, e3, e4, _⟩; go_simp; (try with_reducible rfl))
      (try simp only [Act.put, List.getElem_toArray, List.getElem_cons_succ, List.getElem_cons_zero, List.setIfInBounds_toArray, List.set_cons_succ, List.set_cons_zero])
      refine wpAnyH_take (i := 6) (v := ?_) rfl (by kernel_rfl) (by kernel_rfl) (by kernel_rfl) (fun _ _ _ h => h) (Or.inl ⟨by kernel_rfl, ?_⟩) hHeld ?_
      rotate_left
      · (rintro W ⟨e0, e1, e2, e3, e4, _⟩; go_simp; (try with_reducible rfl))
      (try simp only [Act.put, List.getElem_toArray, List.getElem_cons_succ, List.getElem_cons_zero, List.setIfInBounds_toArray, List.set_cons_succ, List.set_cons_zero])
      refine wpAnyH_take (i := 7) (v := ?_) rfl (by kernel_rfl) (by kernel_rfl) (by kernel_rfl) (fun _ _ _ h => h) (Or.inl ⟨by kernel_rfl, ?_⟩) hHeld ?_
      rotate_left
      · (rintro W ⟨e0, e1, e2, e3, e4, _⟩; go_simp; (try with_reducible rfl))
      (try simp only [Act.put, List.getElem_toArray, List.getElem_cons_succ, List.getElem_cons_zero, List.setIfInBounds_toArray, List.set_cons_succ, List.set_cons_zero])
      refine wpAnyH_take (i := 8) (v := ?_) rfl (by kernel_rfl) (by kernel_rfl) (by kernel_rfl) (fun _ _ _ h => h) (Or.inl ⟨by kernel_rfl, ?_⟩) hHeld ?_
      rotate_left
      · (rintro W ⟨e0, e1, e2, e3, e4, _⟩; go_simp; (try with_reducible rfl))
      (try simp only [Act.put, List.getElem_toArray, List.getElem_cons_succ, List.getElem_cons_zero, List.setIfInBounds_toArray, List.set_cons_succ, List.set_cons_zero])
      refine wpAnyH_take (i := 9) (v := ?_) rfl (by kernel_rfl) (by kernel_rfl) (by kernel_rfl) (fun _ _ _ h => h) (Or.inl ⟨by kernel_rfl, ?_⟩) hHeld ?_
      rotate_left
      · (rintro W ⟨e0, e1, e2, e3, e4, _⟩; go_simp; (try with_reducible rfl))
      (try simp only [Act.put, List.getElem_toArray, List.getElem_cons_succ, List.getElem_cons_zero, List.setIfInBounds_toArray, List.set_cons_succ, List.set_cons_zero])
      refine wpAnyH_take (i := 10) (v := undef) rfl (by kernel_rfl) (by kernel_rfl) (by kernel_rfl) (fun _ _ _ h => h) (Or.inr ⟨by kernel_rfl, rfl⟩) hHeld ?_
      (try simp only [Act.put, List.getElem_toArray, List.getElem_cons_succ, List.getElem_cons_zero, List.setIfInBounds_toArray, List.set_cons_succ, List.set_cons_zero])
      refine wpAnyH_take (i := 11) (v := undef) rfl (by kernel_rfl) (by kernel_rfl) (by kernel_rfl) (fun _ _ _ h => h) (Or.inr ⟨by kernel_rfl, rfl⟩) hHeld ?_
      (try simp only [Act.put, List.getElem_toArray, List.getElem_cons_succ, List.getElem_cons_zero, List.setIfInBounds_toArray, List.set_cons_succ, List.set_cons_zero])
      refine wpAnyH_take (i := 12) (v := undef) rfl (by kernel_rfl) (by kernel_rfl) (by kernel_rfl) (fun _ _ _ h => h) (Or.inr ⟨by kernel_rfl, rfl⟩) hHeld ?_
      (try simp only [Act.put, List.getElem_toArray, List.getElem_cons_succ, List.getElem_cons_zero, List.setIfInBounds_toArray, List.set_cons_succ, List.set_cons_zero])
      refine wpAnyH_take (i := 13) (v := undef) rfl (by kernel_rfl) (by kernel_rfl) (by kernel_rfl) (fun _ _ _ h => h) (Or.inr ⟨by kernel_rfl, rfl⟩) hHeld ?_
      (try simp only [Act.put, List.getElem_toArray, List.getElem_cons_succ, List.getElem_cons_zero, List.setIfInBounds_toArray, List.set_cons_succ, List.set_cons_zero])
      refine wpAnyH_take (i := 14) (v := undef) rfl (by kernel_rfl) (by kernel_rfl) (by kernel_rfl) (fun _ _ _ h => h) (Or.inr ⟨by kernel_rfl, rfl⟩) hHeld ?_
      (try simp only [Act.put, List.getElem_toArray, List.getElem_cons_succ, List.getElem_cons_zero, List.setIfInBounds_toArray, List.set_cons_succ, List.set_cons_zero])
      refine wpAnyH_take (i := 15) (v := undef) rfl (by kernel_rfl) (by kernel_rfl) (by kernel_rfl) (fun _ _ _ h => h) (Or.inr ⟨by kernel_rfl, rfl⟩) hHeld ?_
      (try simp only [Act.put, List.getElem_toArray, List.getElem_cons_succ, List.getElem_cons_zero, List.setIfInBounds_toArray, List.set_cons_succ, List.set_cons_zero])
      refine wpAnyH_take (i := 16) (v := undef) rfl (by kernel_rfl) (by kernel_rfl) (by kernel_rfl) (fun _ _ _ h => h) (Or.inr ⟨by kernel_rfl, rfl⟩) hHeld ?_
      (try simp only [Act.put, List.getElem_toArray, List.getElem_cons_succ, List.getElem_cons_zero, List.setIfInBounds_toArray, List.set_cons_succ, List.set_cons_zero])
      refine wpAnyH_take (i := 17) (v := undef) rfl (by kernel_rfl) (by kernel_rfl) (by kernel_rfl) (fun _ _ _ h => h) (Or.inr ⟨by kernel_rfl, rfl⟩) hHeld ?_
      (try simp only [Act.put, List.getElem_toArray, List.getElem_cons_succ, List.getElem_cons_zero, List.setIfInBounds_toArray, List.set_cons_succ, List.set_cons_zero])
      refine wpAnyH_take (i := 18) (v := undef) rfl (by kernel_rfl) (by kernel_rfl) (by kernel_rfl) (fun _ _ _ h => h) (Or.inr ⟨by kernel_rfl, rfl⟩) hHeld ?_
      (try simp only [Act.put, List.getElem_toArray, List.getElem_cons_succ, List.getElem_cons_zero, List.setIfInBounds_toArray, List.set_cons_succ, List.set_cons_zero])
      refine wpAnyH_take (i := 19) (v := undef) rfl (by kernel_rfl) (by kernel_rfl) (by kernel_rfl) (fun _ _ _ h => h) (Or.inr ⟨by kernel_rfl, rfl⟩) hHeld ?_
      (try simp only [Act.put, List.getElem_toArray, List.getElem_cons_succ, List.getElem_cons_zero, List.setIfInBounds_toArray, List.set_cons_succ, List.set_cons_zero])
      refine wpAnyH_take (i := 20) (v := undef) rfl (by kernel_rfl) (by kernel_rfl) (by kernel_rfl) (fun _ _ _ h => h) (Or.inr ⟨by kernel_rfl, rfl⟩) hHeld ?_
      (try simp only [Act.put, List.getElem_toArray, List.getElem_cons_succ, List.getElem_cons_zero, List.setIfInBounds_toArray, List.set_cons_succ, List.set_cons_zero])
      refine wpAnyH_take (i := 21) (v := ?_) rfl (by kernel_rfl) (by kernel_rfl) (by kernel_rfl) (fun _ _ _ h => h) (Or.inl ⟨by kernel_rfl, ?_⟩) hHeld ?_
      rotate_left
      · (rintro W ⟨e0, e1, e2, e3, e4, _⟩; go_simp; (try with_reducible rfl))
      (try simp only [Act.put, List.getElem_toArray, List.getElem_cons_succ, List.getElem_cons_zero, List.setIfInBounds_toArray, List.set_cons_succ, List.set_cons_zero])
      refine wpAnyH_take (i := 22) (v := ?_) rfl (by kernel_rfl) (by kernel_rfl) (by kernel_rfl) (fun _ _ _ h => h) (Or.inl ⟨by kernel_rfl, ?_⟩) hHeld ?_
      rotate_left
      · (rintro W ⟨e0, e1, e2, e3, e4, _⟩; go_simp; (try with_reducible rfl))
      (try simp only [Act.put, List.getElem_toArray, List.getElem_cons_succ, List.getElem_cons_zero, List.setIfInBounds_toArray, List.set_cons_succ, List.set_cons_zero])
      refine wpAnyH_done (by kernel_rfl) ?_ _
      have hb6 := below_then HD.out hHeld.2.2.2.2.2
      have hst6 := PkS.drewn hHeld
      clear hHeld
      go_wp2_with fail
      refine wp_region_held_drew (S := (fun W => PkS bz (oz + k * 5) nn z _ W)) (by kernel_rfl) (hst6) (fun hHeld => ?_)
      refine wpAnyH_take (i := 0) (v := ?_) rfl (by kernel_rfl) (by kernel_rfl) (by kernel_rfl) (fun _ _ _ h => h) (Or.inl ⟨by kernel_rfl, ?_⟩) hHeld ?_
      rotate_left
      · (rintro W ⟨e0, e1, e2, e3, e4, _⟩; go_simp; (try with_reducible rfl))
      (try simp only [Act.put, List.getElem_toArray, List.getElem_cons_zero, List.setIfInBounds_toArray, List.set_cons_succ, List.set_cons_zero])
      refine wpAnyH_take (i := 1) (v := ?_) rfl (by kernel_rfl) (by kernel_rfl) (by kernel_rfl) (fun _ _ _ h => h) (Or.inl ⟨by kernel_rfl, ?_⟩) hHeld ?_
      rotate_left
      · (rintro W ⟨e0, e1, e2, e3, e4, _⟩; go_simp; (try with_reducible rfl))
      (try simp only [Act.put, List.getElem_toArray, List.getElem_cons_succ, List.getElem_cons_zero, List.setIfInBounds_toArray, List.set_cons_succ, List.set_cons_zero])
      refine wpAnyH_take (i := 2) (v := ?_) rfl (by kernel_rfl) (by kernel_rfl) (by kernel_rfl) (fun _ _ _ h => h) (Or.inl ⟨by kernel_rfl, ?_⟩) hHeld ?_
      rotate_left
      · (rintro W ⟨e0, e1, e2, e3, e4, _⟩; go_simp; (try with_reducible rfl))
      (try simp only [Act.put, List.getElem_toArray, List.getElem_cons_succ, List.getElem_cons_zero, List.setIfInBounds_toArray, List.set_cons_succ, List.set_cons_zero])
      refine wpAnyH_take (i := 3) (v := ?_) rfl (by kernel_rfl) (by kernel_rfl) (by kernel_rfl) (fun _ _ _ h => h) (Or.inl ⟨by kernel_rfl, ?_⟩) hHeld ?_
      rotate_left
      · (rintro W ⟨e0, e1, e2, e3, e4, _⟩; go_simp; (try with_reducible rfl))
      (try simp only [Act.put, List.getElem_toArray, List.getElem_cons_succ, List.getElem_cons_zero, List.setIfInBounds_toArray, List.set_cons_succ, List.set_cons_zero])
      refine wpAnyH_take (i := 4) (v := ?_) rfl (by kernel_rfl) (by kernel_rfl) (by kernel_rfl) (fun _ _ _ h => h) (Or.inl ⟨by kernel_rfl, ?_⟩) hHeld ?_
      rotate_left
      · (rintro W ⟨e0, e1, e2, e3, e4, _⟩; go_simp; (try with_reducible rfl))
      (try simp only [Act.put, List.getElem_toArray, List.getElem_cons_succ, List.getElem_cons_zero, List.setIfInBounds_toArray, List.set_cons_succ, List.set_cons_zero])
      refine wpAnyH_take (i := 5) (v := undef) rfl (by kernel_rfl) (by kernel_rfl) (by kernel_rfl) (fun _ _ _ h => h) (Or.inr ⟨by kernel_rfl, rfl⟩) hHeld ?_
      (try simp only [Act.put, List.getElem_toArray, List.getElem_cons_succ, List.getElem_cons_zero, List.setIfInBounds_toArray, List.set_cons_succ, List.set_cons_zero])
      refine wpAnyH_take (i := 6) (v := undef) rfl (by kernel_rfl) (by kernel_rfl) (by kernel_rfl) (fun _ _ _ h => h) (Or.inr ⟨by kernel_rfl, rfl⟩) hHeld ?_
      (try simp only [Act.put, List.getElem_toArray, List.getElem_cons_succ, List.getElem_cons_zero, List.setIfInBounds_toArray, List.set_cons_succ, List.set_cons_zero])
      refine wpAnyH_take (i := 7) (v := undef) rfl (by kernel_rfl) (by kernel_rfl) (by kernel_rfl) (fun _ _ _ h => h) (Or.inr ⟨by kernel_rfl, rfl⟩) hHeld ?_
      (try simp only [Act.put, List.getElem_toArray, List.getElem_cons_succ, List.getElem_cons_zero, List.setIfInBounds_toArray, List.set_cons_succ, List.set_cons_zero])
      refine wpAnyH_take (i := 8) (v := undef) rfl (by kernel_rfl) (by kernel_rfl) (by kernel_rfl) (fun _ _ _ h => h) (Or.inr ⟨by kernel_rfl, rfl⟩) hHeld ?_
      (try simp only [Act.put, List.getElem_toArray, List.getElem_cons_succ, List.getElem_cons_zero, List.setIfInBounds_toArray, List.set_cons_succ, List.set_cons_zero])
      refine wpAnyH_take (i := 9) (v := undef) rfl (by kernel_rfl) (by kernel_rfl) (by kernel_rfl) (fun _ _ _ h => h) (Or.inr ⟨by kernel_rfl, rfl⟩) hHeld ?_
      (try simp only [Act.put, List.getElem_toArray, List.getElem_cons_succ, List.getElem_cons_zero, List.setIfInBounds_toArray, List.set_cons_succ, List.set_cons_zero])
      refine wpAnyH_take (i := 10) (v := undef) rfl (by kernel_rfl) (by kernel_rfl) (by kernel_rfl) (fun _ _ _ h => h) (Or.inr ⟨by kernel_rfl, rfl⟩) hHeld ?_
      (try simp only [Act.put, List.getElem_toArray, List.getElem_cons_succ, List.getElem_cons_zero, List.setIfInBounds_toArray, List.set_cons_succ, List.set_cons_zero])
      refine wpAnyH_take (i := 11) (v := undef) rfl (by kernel_rfl) (by kernel_rfl) (by kernel_rfl) (fun _ _ _ h => h) (Or.inr ⟨by kernel_rfl, rfl⟩) hHeld ?_
      (try simp only [Act.put, List.getElem_toArray, List.getElem_cons_succ, List.getElem_cons_zero, List.setIfInBounds_toArray, List.set_cons_succ, List.set_cons_zero])
      refine wpAnyH_take (i := 12) (v := undef) rfl (by kernel_rfl) (by kernel_rfl) (by kernel_rfl) (fun _ _ _ h => h) (Or.inr ⟨by kernel_rfl, rfl⟩) hHeld ?_
      (try simp only [Act.put, List.getElem_toArray, List.getElem_cons_succ, List.getElem_cons_zero, List.setIfInBounds_toArray, List.set_cons_succ, List.set_cons_zero])
      refine wpAnyH_take (i := 13) (v := undef) rfl (by kernel_rfl) (by kernel_rfl) (by kernel_rfl) (fun _ _ _ h => h) (Or.inr ⟨by kernel_rfl, rfl⟩) hHeld ?_
      (try simp only [Act.put, List.getElem_toArray, List.getElem_cons_succ, List.getElem_cons_zero, List.setIfInBounds_toArray, List.set_cons_succ, List.set_cons_zero])
      refine wpAnyH_take (i := 14) (v := undef) rfl (by kernel_rfl) (by kernel_rfl) (by kernel_rfl) (fun _ _ _ h => h) (Or.inr ⟨by kernel_rfl, rfl⟩) hHeld ?_
      (try simp only [Act.put, List.getElem_toArray, List.getElem_cons_succ, List.getElem_cons_zero, List.setIfInBounds_toArray, List.set_cons_succ, List.set_cons_zero])
      refine wpAnyH_take (i := 15) (v := undef) rfl (by kernel_rfl) (by kernel_rfl) (by kernel_rfl) (fun _ _ _ h => h) (Or.inr ⟨by kernel_rfl, rfl⟩) hHeld ?_
      (try simp only [Act.put, List.getElem_toArray, List.getElem_cons_succ, List.getElem_cons_zero, List.setIfInBounds_toArray, List.set_cons_succ, List.set_cons_zero])
      refine wpAnyH_take (i := 16) (v := ?_) rfl (by kernel_rfl) (by kernel_rfl) (by kernel_rfl) (fun _ _ _ h => h) (Or.inl ⟨by kernel_rfl, ?_⟩) hHeld ?_
      rotate_left
      · (rintro W ⟨e0, e1, e2, e3, e4, _⟩; go_simp; (try with_reducible rfl))
      (try simp only [Act.put, List.getElem_toArray, List.getElem_cons_succ, List.getElem_cons_zero, List.setIfInBounds_toArray, List.set_cons_succ, List.set_cons_zero])
      refine wpAnyH_done (by kernel_rfl) ?_ _
      have hb9 := below_then hb6.drew hHeld.2.2.2.2.2
      have hst9 := PkS.drewn hHeld
      clear hHeld hst6
      go_wp2_with fail
      refine wp_region_held_drew (S := (fun W => PkS bz (oz + k * 5) nn z _ W)) (by kernel_rfl) (hst9) (fun hHeld => ?_)
      refine wpAnyH_take (i := 0) (v := ?_) rfl (by kernel_rfl) (by kernel_rfl) (by kernel_rfl) (fun _ _ _ h => h) (Or.inl ⟨by kernel_rfl, ?_⟩) hHeld ?_
      rotate_left
      · (rintro W ⟨e0, e1, e2, e3, e4, _⟩; go_simp; (try with_reducible rfl))
      (try simp only [Act.put, List.getElem_toArray, List.getElem_cons_zero, List.setIfInBounds_toArray, List.set_cons_succ, List.set_cons_zero])
      refine wpAnyH_take (i := 1) (v := ?_) rfl (by kernel_rfl) (by kernel_rfl) (by kernel_rfl) (fun _ _ _ h => h) (Or.inl ⟨by kernel_rfl, ?_⟩) hHeld ?_
      rotate_left
      · (rintro W ⟨e0, e1, e2, e3, e4, _⟩; go_simp; (try with_reducible rfl))
      (try simp only [Act.put, List.getElem_toArray, List.getElem_cons_succ, List.getElem_cons_zero, List.setIfInBounds_toArray, List.set_cons_succ, List.set_cons_zero])
      refine wpAnyH_take (i := 2) (v := ?_) rfl (by kernel_rfl) (by kernel_rfl) (by kernel_rfl) (fun _ _ _ h => h) (Or.inl ⟨by kernel_rfl, ?_⟩) hHeld ?_
      rotate_left
      · (rintro W ⟨e0, e1, e2, e3, e4, _⟩; go_simp; (try with_reducible rfl))
      (try simp only [Act.put, List.getElem_toArray, List.getElem_cons_succ, List.getElem_cons_zero, List.setIfInBounds_toArray, List.set_cons_succ, List.set_cons_zero])
      refine wpAnyH_take (i := 3) (v := ?_) rfl (by kernel_rfl) (by kernel_rfl) (by kernel_rfl) (fun _ _ _ h => h) (Or.inl ⟨by kernel_rfl, ?_⟩) hHeld ?_
      rotate_left
      · (rintro W ⟨e0, e1, e2, e3, e4, _⟩; go_simp; (try with_reducible rfl))
      (try simp only [Act.put, List.getElem_toArray, List.getElem_cons_succ, List.getElem_cons_zero, List.setIfInBounds_toArray, List.set_cons_succ, List.set_cons_zero])
      refine wpAnyH_take (i := 4) (v := ?_) rfl (by kernel_rfl) (by kernel_rfl) (by kernel_rfl) (fun _ _ _ h => h) (Or.inl ⟨by kernel_rfl, ?_⟩) hHeld ?_
      rotate_left
      · (rintro W ⟨e0, e1, e2, e3, e4, _⟩; go_simp; (try with_reducible rfl))
      (try simp only [Act.put, List.getElem_toArray, List.getElem_cons_succ, List.getElem_cons_zero, List.setIfInBounds_toArray, List.set_cons_succ, List.set_cons_zero])
      refine wpAnyH_take (i := 5) (v := ?_) rfl (by kernel_rfl) (by kernel_rfl) (by kernel_rfl) (fun _ _ _ h => h) (Or.inl ⟨by kernel_rfl, ?_⟩) hHeld ?_
      rotate_left
      · (rintro W ⟨e0, e1, e2, e3, e4, _⟩; go_simp; (try with_reducible rfl))
      (try simp only [Act.put, List.getElem_toArray, List.getElem_cons_succ, List.getElem_cons_zero, List.setIfInBounds_toArray, List.set_cons_succ, List.set_cons_zero])
      refine wpAnyH_take (i := 6) (v := ?_) rfl (by kernel_rfl) (by kernel_rfl) (by kernel_rfl) (fun _ _ _ h => h) (Or.inl ⟨by kernel_rfl, ?_⟩) hHeld ?_
      rotate_left
      · (rintro W ⟨e0, e1, e2, e3, e4, _⟩; go_simp; (try with_reducible rfl))
      (try simp only [Act.put, List.getElem_toArray, List.getElem_cons_succ, List.getElem_cons_zero, List.setIfInBounds_toArray, List.set_cons_succ, List.set_cons_zero])
      refine wpAnyH_take (i := 7) (v := ?_) rfl (by kernel_rfl) (by kernel_rfl) (by kernel_rfl) (fun _ _ _ h => h) (Or.inl ⟨by kernel_rfl, ?_⟩) hHeld ?_
      rotate_left
      · (rintro W ⟨e0, e1, e2, e3, e4, _⟩; go_simp; (try with_reducible rfl))
      (try simp only [Act.put, List.getElem_toArray, List.getElem_cons_succ, List.getElem_cons_zero, List.setIfInBounds_toArray, List.set_cons_succ, List.set_cons_zero])
      refine wpAnyH_take (i := 8) (v := ?_) rfl (by kernel_rfl) (by kernel_rfl) (by kernel_rfl) (fun _ _ _ h => h) (Or.inl ⟨by kernel_rfl, ?_⟩) hHeld ?_
      rotate_left
      · (rintro W ⟨e0, e1, e2, e3, e4, _⟩; go_simp; (try with_reducible rfl))
      (try simp only [Act.put, List.getElem_toArray, List.getElem_cons_succ, List.getElem_cons_zero, List.setIfInBounds_toArray, List.set_cons_succ, List.set_cons_zero])
      refine wpAnyH_take (i := 9) (v := ?_) rfl (by kernel_rfl) (by kernel_rfl) (by kernel_rfl) (fun _ _ _ h => h) (Or.inl ⟨by kernel_rfl, ?_⟩) hHeld ?_
      rotate_left
      · (rintro W ⟨e0, e1, e2, e3, e4, _⟩; go_simp; (try with_reducible rfl))
      (try simp only [Act.put, List.getElem_toArray, List.getElem_cons_succ, List.getElem_cons_zero, List.setIfInBounds_toArray, List.set_cons_succ, List.set_cons_zero])
      refine wpAnyH_take (i := 10) (v := ?_) rfl (by kernel_rfl) (by kernel_rfl) (by kernel_rfl) (fun _ _ _ h => h) (Or.inl ⟨by kernel_rfl, ?_⟩) hHeld ?_
      rotate_left
      · (rintro W ⟨e0, e1, e2, e3, e4, _⟩; go_simp; (try with_reducible rfl))
      (try simp only [Act.put, List.getElem_toArray, List.getElem_cons_succ, List.getElem_cons_zero, List.setIfInBounds_toArray, List.set_cons_succ, List.set_cons_zero])
      refine wpAnyH_take (i := 11) (v := ?_) rfl (by kernel_rfl) (by kernel_rfl) (by kernel_rfl) (fun _ _ _ h => h) (Or.inl ⟨by kernel_rfl, ?_⟩) hHeld ?_
      rotate_left
      · (rintro W ⟨e0, e1, e2, e3, e4, _⟩; go_simp; (try with_reducible rfl))
      (try simp only [Act.put, List.getElem_toArray, List.getElem_cons_succ, List.getElem_cons_zero, List.setIfInBounds_toArray, List.set_cons_succ, List.set_cons_zero])
      refine wpAnyH_take (i := 12) (v := ?_) rfl (by kernel_rfl) (by kernel_rfl) (by kernel_rfl) (fun _ _ _ h => h) (Or.inl ⟨by kernel_rfl, ?_⟩) hHeld ?_
      rotate_left
      · (rintro W ⟨e0, e1, e2, e3, e4, _⟩; go_simp; (try with_reducible rfl))
      (try simp only [Act.put, List.getElem_toArray, List.getElem_cons_succ, List.getElem_cons_zero, List.setIfInBounds_toArray, List.set_cons_succ, List.set_cons_zero])
      refine wpAnyH_take (i := 13) (v := ?_) rfl (by kernel_rfl) (by kernel_rfl) (by kernel_rfl) (fun _ _ _ h => h) (Or.inl ⟨by kernel_rfl, ?_⟩) hHeld ?_
      rotate_left
      · (rintro W ⟨e0, e1, e2, e3, e4, _⟩; go_simp; (try with_reducible rfl))
      (try simp only [Act.put, List.getElem_toArray, List.getElem_cons_succ, List.getElem_cons_zero, List.setIfInBounds_toArray, List.set_cons_succ, List.set_cons_zero])
      refine wpAnyH_ready (rs := [14]) (by kernel_rfl) (by simp) ?_
      refine AllReadyH.cons rfl (fun K hK => ?_) AllReadyH.nil
      go_simp
      refine (keepS PkS.on hHeld (HU'.out _)).mono ?_
      rintro e w5 ⟨rfl, hk5⟩
      refine hK.out _ _ (hk5) (fun hHeld => ?_)
      clear hK K
      (try simp only [Act.put, List.getElem_toArray, List.getElem_cons_succ, List.getElem_cons_zero, List.setIfInBounds_toArray, List.set_cons_succ, List.set_cons_zero])
      refine wpAnyH_take (i := 15) (v := ?_) rfl (by kernel_rfl) (by kernel_rfl) (by kernel_rfl) (fun _ _ _ h => h) (Or.inl ⟨by kernel_rfl, ?_⟩) hHeld ?_
      rotate_left
      · (rintro W ⟨e0, e1, e2, e3, e4, _⟩; go_simp; (try with_reducible rfl))
      (try simp only [Act.put, List.getElem_toArray, List.getElem_cons_succ, List.getElem_cons_zero, List.setIfInBounds_toArray, List.set_cons_succ, List.set_cons_zero])
      refine wpAnyH_take (i := 16) (v := ?_) rfl (by kernel_rfl) (by kernel_rfl) (by kernel_rfl) (fun _ _ _ h => h) (Or.inl ⟨by kernel_rfl, ?_⟩) hHeld ?_
      rotate_left
      · (rintro W ⟨e0, e1, e2, e3, e4, _⟩; go_simp; (try with_reducible rfl))
      (try simp only [Act.put, List.getElem_toArray, List.getElem_cons_succ, List.getElem_cons_zero, List.setIfInBounds_toArray, List.set_cons_succ, List.set_cons_zero])
      refine wpAnyH_take (i := 17) (v := ?_) rfl (by kernel_rfl) (by kernel_rfl) (by kernel_rfl) (fun _ _ _ h => h) (Or.inl ⟨by kernel_rfl, ?_⟩) hHeld ?_
      rotate_left
      · (rintro W ⟨e0, e1, e2, e3, e4, _⟩; go_simp; (try with_reducible rfl))
      (try simp only [Act.put, List.getElem_toArray, List.getElem_cons_succ, List.getElem_cons_zero, List.setIfInBounds_toArray, List.set_cons_succ, List.set_cons_zero])
      refine wpAnyH_done (by kernel_rfl) ?_ _
      have hbF := below_then hb9.drew hHeld.2.2.2.2.2
      clear hHeld
      go_wp2_with fail
      go_roundw
      case rel => exact ⟨i, k + 1, _, hi, hklt, rfl, by go_num, rfl, HN.out, hbF⟩
      case measure => simp [intOf]; omega
    have hilt : i < ps.length := by omega
    have q4 : (((i : Int) == (ps.length : Int))) = false := by rw [beq_eq_false_iff_ne]; omega
    have q4' : (i == ps.length) = false := by rw [beq_eq_false_iff_ne]; omega
    have q5 : decide ((i : Int) < (ps.length : Int)) = true := decide_eq_true (by omega)
    have q5' : decide (i < ps.length) = true := decide_eq_true hilt
    have j2 : (i : Int) < (ps.length : Int) := by omega
    obtain ⟨bx, ox, rfl, hst⟩ := Piks.pkS HV.out HB.out hilt
    have hst := hst.drew
    obtain ⟨nm, y, hye⟩ : ∃ nm y, ps[i] = ⟨nm, y⟩ := ⟨_, _, rfl⟩
    obtain ⟨z1, z2, z3⟩ := HPz.out _ (HPo.out _ (List.getElem_mem hilt))
    rw [hye] at hst z1 z2 z3
    simp only at hst z1 z2 z3
    obtain ⟨T, hT⟩ : ∃ T, S y.show = T := ⟨_, rfl⟩
    have hTs : T.size ≤ 45 := by rw [← hT, S_size]; exact vshow_len z2
    have HT := Lib.hid (fun W => rversion_as y z2 T hT W)
    have hss : PkT bx (ox + i * 5) nm y bz (oz + k * 5) nn z wr.drew wr.drew := ⟨hst, hsu⟩
    clear hst hsu hie
    have hnx : ps[i].nm = nm.data.toList := by rw [hye]; rfl
    have hnz : qs[k].nm = nn.data.toList := by rw [hze]; rfl
    by_cases hl1 : nm.data.toList < nn.data.toList
    · have q6 := less_names nm nn true (decide_eq_true hl1)
      have HC := Lib.hid hl1
      clear hl1
      obtain ⟨A1, hA1⟩ : ∃ c, A ++ ⟨#[45, 32]⟩ = c := ⟨_, rfl⟩
      have sA1 : A1.size ≤ A.size + 2 := by rw [← hA1, ByteArray.size_append]; exact Nat.add_le_add_left (by first | decide | assumption) _
      have rA1 := add_as (P := Tryz.prog) hA1 (by omega)
      obtain ⟨A2, hA2⟩ : ∃ c, A1 ++ nm = c := ⟨_, rfl⟩
      have sA2 : A2.size ≤ A1.size + 24 := by rw [← hA2, ByteArray.size_append]; exact Nat.add_le_add_left (by first | decide | assumption) _
      have rA2 := add_as (P := Tryz.prog) hA2 (by omega)
      obtain ⟨A3, hA3⟩ : ∃ c, A2 ++ ⟨#[32]⟩ = c := ⟨_, rfl⟩
      have sA3 : A3.size ≤ A2.size + 1 := by rw [← hA3, ByteArray.size_append]; exact Nat.add_le_add_left (by first | decide | assumption) _
      have rA3 := add_as (P := Tryz.prog) hA3 (by omega)
      obtain ⟨A4, hA4⟩ : ∃ c, A3 ++ T = c := ⟨_, rfl⟩
      have sA4 : A4.size ≤ A3.size + 45 := by rw [← hA4, ByteArray.size_append]; exact Nat.add_le_add_left (by first | decide | assumption) _
      have rA4 := add_as (P := Tryz.prog) hA4 (by omega)
      obtain ⟨A5, hA5⟩ : ∃ c, A4 ++ ⟨#[10]⟩ = c := ⟨_, rfl⟩
      have sA5 : A5.size ≤ A4.size + 1 := by rw [← hA5, ByteArray.size_append]; exact Nat.add_le_add_left (by first | decide | assumption) _
      have rA5 := add_as (P := Tryz.prog) hA5 (by omega)
      have HN : Hid (UpAt ps qs (i + 1) k A5.data.toList) := by
        have h := up_minus HUp.out hilt (.inr ⟨hklt, by rw [hnx, hnz]; exact HC.out⟩)
        rw [hye] at h
        have e : A5.data.toList = A.data.toList ++ minusL ⟨nm, y⟩ := by rw [← hA5, ← hA4, ← hA3, ← hA2, ← hA1, ← hT]; simp [S, minusL, Pik.line, Pik.nm]
        rw [e]; exact h
      clear hA1 hA2 hA3 hA4 hA5 hye hT
      go_wp2_with fail
      refine wp_region_held_drew (S := (fun W => PkT bx (ox + i * 5) nm y bz (oz + k * 5) nn z wr.drew W)) (by kernel_rfl) (hss) (fun hHeld => ?_)
      refine wpAnyH_take (i := 0) (v := ?_) rfl (by kernel_rfl) (by kernel_rfl) (by kernel_rfl) (fun _ _ _ h => h) (Or.inl ⟨by kernel_rfl, ?_⟩) hHeld ?_
      rotate_left
      · (rintro W ⟨⟨e0, e1, e2, e3, e4, _⟩, ⟨f0, f1, f2, f3, f4, _⟩⟩; go_simp; (try with_reducible rfl))
      (try simp only [Act.put, List.getElem_toArray, List.getElem_cons_zero, List.setIfInBounds_toArray, List.set_cons_succ, List.set_cons_zero])
      refine wpAnyH_take (i := 1) (v := ?_) rfl (by kernel_rfl) (by kernel_rfl) (by kernel_rfl) (fun _ _ _ h => h) (Or.inl ⟨by kernel_rfl, ?_⟩) hHeld ?_
      rotate_left
      · (rintro W ⟨⟨e0, e1, e2, e3, e4, _⟩, ⟨f0, f1, f2, f3, f4, _⟩⟩; go_simp; (try with_reducible rfl))
      (try simp only [Act.put, List.getElem_toArray, List.getElem_cons_succ, List.getElem_cons_zero, List.setIfInBounds_toArray, List.set_cons_succ, List.set_cons_zero])
      refine wpAnyH_take (i := 2) (v := ?_) rfl (by kernel_rfl) (by kernel_rfl) (by kernel_rfl) (fun _ _ _ h => h) (Or.inl ⟨by kernel_rfl, ?_⟩) hHeld ?_
      rotate_left
      · (rintro W ⟨⟨e0, e1, e2, e3, e4, _⟩, ⟨f0, f1, f2, f3, f4, _⟩⟩; go_simp; (try with_reducible rfl))
      (try simp only [Act.put, List.getElem_toArray, List.getElem_cons_succ, List.getElem_cons_zero, List.setIfInBounds_toArray, List.set_cons_succ, List.set_cons_zero])
      refine wpAnyH_take (i := 3) (v := ?_) rfl (by kernel_rfl) (by kernel_rfl) (by kernel_rfl) (fun _ _ _ h => h) (Or.inl ⟨by kernel_rfl, ?_⟩) hHeld ?_
      rotate_left
      · (rintro W ⟨⟨e0, e1, e2, e3, e4, _⟩, ⟨f0, f1, f2, f3, f4, _⟩⟩; go_simp; (try with_reducible rfl))
      (try simp only [Act.put, List.getElem_toArray, List.getElem_cons_succ, List.getElem_cons_zero, List.setIfInBounds_toArray, List.set_cons_succ, List.set_cons_zero])
      refine wpAnyH_take (i := 4) (v := ?_) rfl (by kernel_rfl) (by kernel_rfl) (by kernel_rfl) (fun _ _ _ h => h) (Or.inl ⟨by kernel_rfl, ?_⟩) hHeld ?_
      rotate_left
      · (rintro W ⟨⟨e0, e1, e2, e3, e4, _⟩, ⟨f0, f1, f2, f3, f4, _⟩⟩; go_simp; (try with_reducible rfl))
      (try simp only [Act.put, List.getElem_toArray, List.getElem_cons_succ, List.getElem_cons_zero, List.setIfInBounds_toArray, List.set_cons_succ, List.set_cons_zero])
      refine wpAnyH_take (i := 5) (v := ?_) rfl (by kernel_rfl) (by kernel_rfl) (by kernel_rfl) (fun _ _ _ h => h) (Or.inl ⟨by kernel_rfl, ?_⟩) hHeld ?_
      rotate_left
      · (rintro W ⟨⟨e0, e1, e2, e3, e4, _⟩, ⟨f0, f1, f2, f3, f4, _⟩⟩; go_simp; (try with_reducible rfl))
      (try simp only [Act.put, List.getElem_toArray, List.getElem_cons_succ, List.getElem_cons_zero, List.setIfInBounds_toArray, List.set_cons_succ, List.set_cons_zero])
      refine wpAnyH_take (i := 6) (v := ?_) rfl (by kernel_rfl) (by kernel_rfl) (by kernel_rfl) (fun _ _ _ h => h) (Or.inl ⟨by kernel_rfl, ?_⟩) hHeld ?_
      rotate_left
      · (rintro W ⟨⟨e0, e1, e2, e3, e4, _⟩, ⟨f0, f1, f2, f3, f4, _⟩⟩; go_simp; (try with_reducible rfl))
      (try simp only [Act.put, List.getElem_toArray, List.getElem_cons_succ, List.getElem_cons_zero, List.setIfInBounds_toArray, List.set_cons_succ, List.set_cons_zero])
      refine wpAnyH_take (i := 7) (v := ?_) rfl (by kernel_rfl) (by kernel_rfl) (by kernel_rfl) (fun _ _ _ h => h) (Or.inl ⟨by kernel_rfl, ?_⟩) hHeld ?_
      rotate_left
      · (rintro W ⟨⟨e0, e1, e2, e3, e4, _⟩, ⟨f0, f1, f2, f3, f4, _⟩⟩; go_simp; (try with_reducible rfl))
      (try simp only [Act.put, List.getElem_toArray, List.getElem_cons_succ, List.getElem_cons_zero, List.setIfInBounds_toArray, List.set_cons_succ, List.set_cons_zero])
      refine wpAnyH_take (i := 8) (v := ?_) rfl (by kernel_rfl) (by kernel_rfl) (by kernel_rfl) (fun _ _ _ h => h) (Or.inl ⟨by kernel_rfl, ?_⟩) hHeld ?_
      rotate_left
      · (rintro W ⟨⟨e0, e1, e2, e3, e4, _⟩, ⟨f0, f1, f2, f3, f4, _⟩⟩; go_simp; (try with_reducible rfl))
      (try simp only [Act.put, List.getElem_toArray, List.getElem_cons_succ, List.getElem_cons_zero, List.setIfInBounds_toArray, List.set_cons_succ, List.set_cons_zero])
      refine wpAnyH_take (i := 9) (v := ?_) rfl (by kernel_rfl) (by kernel_rfl) (by kernel_rfl) (fun _ _ _ h => h) (Or.inl ⟨by kernel_rfl, ?_⟩) hHeld ?_
      rotate_left
      · (rintro W ⟨⟨e0, e1, e2, e3, e4, _⟩, ⟨f0, f1, f2, f3, f4, _⟩⟩; go_simp; (try with_reducible rfl))
      (try simp only [Act.put, List.getElem_toArray, List.getElem_cons_succ, List.getElem_cons_zero, List.setIfInBounds_toArray, List.set_cons_succ, List.set_cons_zero])
      refine wpAnyH_take (i := 10) (v := ?_) rfl (by kernel_rfl) (by kernel_rfl) (by kernel_rfl) (fun _ _ _ h => h) (Or.inl ⟨by kernel_rfl, ?_⟩) hHeld ?_
      rotate_left
      · (rintro W ⟨⟨e0, e1, e2, e3, e4, _⟩, ⟨f0, f1, f2, f3, f4, _⟩⟩; go_simp; (try with_reducible rfl))
      (try simp only [Act.put, List.getElem_toArray, List.getElem_cons_succ, List.getElem_cons_zero, List.setIfInBounds_toArray, List.set_cons_succ, List.set_cons_zero])
      refine wpAnyH_take (i := 11) (v := ?_) rfl (by kernel_rfl) (by kernel_rfl) (by kernel_rfl) (fun _ _ _ h => h) (Or.inl ⟨by kernel_rfl, ?_⟩) hHeld ?_
      rotate_left
      · (rintro W ⟨⟨e0, e1, e2, e3, e4, _⟩, ⟨f0, f1, f2, f3, f4, _⟩⟩; go_simp; (try with_reducible rfl))
      (try simp only [Act.put, List.getElem_toArray, List.getElem_cons_succ, List.getElem_cons_zero, List.setIfInBounds_toArray, List.set_cons_succ, List.set_cons_zero])
      refine wpAnyH_take (i := 12) (v := ?_) rfl (by kernel_rfl) (by kernel_rfl) (by kernel_rfl) (fun _ _ _ h => h) (Or.inl ⟨by kernel_rfl, ?_⟩) hHeld ?_
      rotate_left
      · (rintro W ⟨⟨e0, e1, e2, e3, e4, _⟩, ⟨f0, f1, f2, f3, f4, _⟩⟩; go_simp; (try with_reducible rfl))
      (try simp only [Act.put, List.getElem_toArray, List.getElem_cons_succ, List.getElem_cons_zero, List.setIfInBounds_toArray, List.set_cons_succ, List.set_cons_zero])
      refine wpAnyH_take (i := 13) (v := ?_) rfl (by kernel_rfl) (by kernel_rfl) (by kernel_rfl) (fun _ _ _ h => h) (Or.inl ⟨by kernel_rfl, ?_⟩) hHeld ?_
      rotate_left
      · (rintro W ⟨⟨e0, e1, e2, e3, e4, _⟩, ⟨f0, f1, f2, f3, f4, _⟩⟩; go_simp; (try with_reducible rfl))
      (try simp only [Act.put, List.getElem_toArray, List.getElem_cons_succ, List.getElem_cons_zero, List.setIfInBounds_toArray, List.set_cons_succ, List.set_cons_zero])
      refine wpAnyH_take (i := 14) (v := ?_) rfl (by kernel_rfl) (by kernel_rfl) (by kernel_rfl) (fun _ _ _ h => h) (Or.inl ⟨by kernel_rfl, ?_⟩) hHeld ?_
      rotate_left
      · (rintro W ⟨⟨e0, e1, e2, e3, e4, _⟩, ⟨f0, f1, f2, f3, f4, _⟩⟩; go_simp; (try with_reducible rfl))
      (try simp only [Act.put, List.getElem_toArray, List.getElem_cons_succ, List.getElem_cons_zero, List.setIfInBounds_toArray, List.set_cons_succ, List.set_cons_zero])
      refine wpAnyH_take (i := 15) (v := ?_) rfl (by kernel_rfl) (by kernel_rfl) (by kernel_rfl) (fun _ _ _ h => h) (Or.inl ⟨by kernel_rfl, ?_⟩) hHeld ?_
      rotate_left
      · (rintro W ⟨⟨e0, e1, e2, e3, e4, _⟩, ⟨f0, f1, f2, f3, f4, _⟩⟩; go_simp; (try with_reducible rfl))
      (try simp only [Act.put, List.getElem_toArray, List.getElem_cons_succ, List.getElem_cons_zero, List.setIfInBounds_toArray, List.set_cons_succ, List.set_cons_zero])
      refine wpAnyH_take (i := 16) (v := ?_) rfl (by kernel_rfl) (by kernel_rfl) (by kernel_rfl) (fun _ _ _ h => h) (Or.inl ⟨by kernel_rfl, ?_⟩) hHeld ?_
      rotate_left
      · (rintro W ⟨⟨e0, e1, e2, e3, e4, _⟩, ⟨f0, f1, f2, f3, f4, _⟩⟩; go_simp; (try with_reducible rfl))
      (try simp only [Act.put, List.getElem_toArray, List.getElem_cons_succ, List.getElem_cons_zero, List.setIfInBounds_toArray, List.set_cons_succ, List.set_cons_zero])
      refine wpAnyH_take (i := 17) (v := ?_) rfl (by kernel_rfl) (by kernel_rfl) (by kernel_rfl) (fun _ _ _ h => h) (Or.inl ⟨by kernel_rfl, ?_⟩) hHeld ?_
      rotate_left
      · (rintro W ⟨⟨e0, e1, e2, e3, e4, _⟩, ⟨f0, f1, f2, f3, f4, _⟩⟩; go_simp; (try with_reducible rfl))
      (try simp only [Act.put, List.getElem_toArray, List.getElem_cons_succ, List.getElem_cons_zero, List.setIfInBounds_toArray, List.set_cons_succ, List.set_cons_zero])
      refine wpAnyH_take (i := 18) (v := ?_) rfl (by kernel_rfl) (by kernel_rfl) (by kernel_rfl) (fun _ _ _ h => h) (Or.inl ⟨by kernel_rfl, ?_⟩) hHeld ?_
      rotate_left
      · (rintro W ⟨⟨e0, e1, e2, e3, e4, _⟩, ⟨f0, f1, f2, f3, f4, _⟩⟩; go_simp; (try with_reducible rfl))
      (try simp only [Act.put, List.getElem_toArray, List.getElem_cons_succ, List.getElem_cons_zero, List.setIfInBounds_toArray, List.set_cons_succ, List.set_cons_zero])
      refine wpAnyH_take (i := 19) (v := ?_) rfl (by kernel_rfl) (by kernel_rfl) (by kernel_rfl) (fun _ _ _ h => h) (Or.inl ⟨by kernel_rfl, ?_⟩) hHeld ?_
      rotate_left
      · (rintro W ⟨⟨e0, e1, e2, e3, e4, _⟩, ⟨f0, f1, f2, f3, f4, _⟩⟩; go_simp; (try with_reducible rfl))
      (try simp only [Act.put, List.getElem_toArray, List.getElem_cons_succ, List.getElem_cons_zero, List.setIfInBounds_toArray, List.set_cons_succ, List.set_cons_zero])
      refine wpAnyH_take (i := 20) (v := ?_) rfl (by kernel_rfl) (by kernel_rfl) (by kernel_rfl) (fun _ _ _ h => h) (Or.inl ⟨by kernel_rfl, ?_⟩) hHeld ?_
      rotate_left
      · (rintro W ⟨⟨e0, e1, e2, e3, e4, _⟩, ⟨f0, f1, f2, f3, f4, _⟩⟩; go_simp; (try with_reducible rfl))
      (try simp only [Act.put, List.getElem_toArray, List.getElem_cons_succ, List.getElem_cons_zero, List.setIfInBounds_toArray, List.set_cons_succ, List.set_cons_zero])
      refine wpAnyH_take (i := 21) (v := ?_) rfl (by kernel_rfl) (by kernel_rfl) (by kernel_rfl) (fun _ _ _ h => h) (Or.inl ⟨by kernel_rfl, ?_⟩) hHeld ?_
      rotate_left
      · (rintro W ⟨⟨e0, e1, e2, e3, e4, _⟩, ⟨f0, f1, f2, f3, f4, _⟩⟩; go_simp; (try with_reducible rfl))
      (try simp only [Act.put, List.getElem_toArray, List.getElem_cons_succ, List.getElem_cons_zero, List.setIfInBounds_toArray, List.set_cons_succ, List.set_cons_zero])
      refine wpAnyH_take (i := 22) (v := ?_) rfl (by kernel_rfl) (by kernel_rfl) (by kernel_rfl) (fun _ _ _ h => h) (Or.inl ⟨by kernel_rfl, ?_⟩) hHeld ?_
      rotate_left
      · (rintro W ⟨⟨e0, e1, e2, e3, e4, _⟩, ⟨f0, f1, f2, f3, f4, _⟩⟩; go_simp; (try with_reducible rfl))
      (try simp only [Act.put, List.getElem_toArray, List.getElem_cons_succ, List.getElem_cons_zero, List.setIfInBounds_toArray, List.set_cons_succ, List.set_cons_zero])
      refine wpAnyH_done (by kernel_rfl) ?_ _
      have hb6 := below_then HD.out hHeld.1.2.2.2.2.2
      have hst6 := PkT.drewn hHeld
      clear hHeld
      go_wp2_with fail
      refine wp_region_held_drew (S := (fun W => PkT bx (ox + i * 5) nm y bz (oz + k * 5) nn z _ W)) (by kernel_rfl) (hst6) (fun hHeld => ?_)
      refine wpAnyH_take (i := 0) (v := ?_) rfl (by kernel_rfl) (by kernel_rfl) (by kernel_rfl) (fun _ _ _ h => h) (Or.inl ⟨by kernel_rfl, ?_⟩) hHeld ?_
      rotate_left
      · (rintro W ⟨⟨e0, e1, e2, e3, e4, _⟩, ⟨f0, f1, f2, f3, f4, _⟩⟩; go_simp; (try with_reducible rfl))
      (try simp only [Act.put, List.getElem_toArray, List.getElem_cons_zero, List.setIfInBounds_toArray, List.set_cons_succ, List.set_cons_zero])
      refine wpAnyH_take (i := 1) (v := ?_) rfl (by kernel_rfl) (by kernel_rfl) (by kernel_rfl) (fun _ _ _ h => h) (Or.inl ⟨by kernel_rfl, ?_⟩) hHeld ?_
      rotate_left
      · (rintro W ⟨⟨e0, e1, e2, e3, e4, _⟩, ⟨f0, f1, f2, f3, f4, _⟩⟩; go_simp; (try with_reducible rfl))
      (try simp only [Act.put, List.getElem_toArray, List.getElem_cons_succ, List.getElem_cons_zero, List.setIfInBounds_toArray, List.set_cons_succ, List.set_cons_zero])
      refine wpAnyH_take (i := 2) (v := ?_) rfl (by kernel_rfl) (by kernel_rfl) (by kernel_rfl) (fun _ _ _ h => h) (Or.inl ⟨by kernel_rfl, ?_⟩) hHeld ?_
      rotate_left
      · (rintro W ⟨⟨e0, e1, e2, e3, e4, _⟩, ⟨f0, f1, f2, f3, f4, _⟩⟩; go_simp; (try with_reducible rfl))
      (try simp only [Act.put, List.getElem_toArray, List.getElem_cons_succ, List.getElem_cons_zero, List.setIfInBounds_toArray, List.set_cons_succ, List.set_cons_zero])
      refine wpAnyH_take (i := 3) (v := ?_) rfl (by kernel_rfl) (by kernel_rfl) (by kernel_rfl) (fun _ _ _ h => h) (Or.inl ⟨by kernel_rfl, ?_⟩) hHeld ?_
      rotate_left
      · (rintro W ⟨⟨e0, e1, e2, e3, e4, _⟩, ⟨f0, f1, f2, f3, f4, _⟩⟩; go_simp; (try with_reducible rfl))
      (try simp only [Act.put, List.getElem_toArray, List.getElem_cons_succ, List.getElem_cons_zero, List.setIfInBounds_toArray, List.set_cons_succ, List.set_cons_zero])
      refine wpAnyH_take (i := 4) (v := ?_) rfl (by kernel_rfl) (by kernel_rfl) (by kernel_rfl) (fun _ _ _ h => h) (Or.inl ⟨by kernel_rfl, ?_⟩) hHeld ?_
      rotate_left
      · (rintro W ⟨⟨e0, e1, e2, e3, e4, _⟩, ⟨f0, f1, f2, f3, f4, _⟩⟩; go_simp; (try with_reducible rfl))
      (try simp only [Act.put, List.getElem_toArray, List.getElem_cons_succ, List.getElem_cons_zero, List.setIfInBounds_toArray, List.set_cons_succ, List.set_cons_zero])
      refine wpAnyH_take (i := 5) (v := ?_) rfl (by kernel_rfl) (by kernel_rfl) (by kernel_rfl) (fun _ _ _ h => h) (Or.inl ⟨by kernel_rfl, ?_⟩) hHeld ?_
      rotate_left
      · (rintro W ⟨⟨e0, e1, e2, e3, e4, _⟩, ⟨f0, f1, f2, f3, f4, _⟩⟩; go_simp; (try with_reducible rfl))
      (try simp only [Act.put, List.getElem_toArray, List.getElem_cons_succ, List.getElem_cons_zero, List.setIfInBounds_toArray, List.set_cons_succ, List.set_cons_zero])
      refine wpAnyH_take (i := 6) (v := ?_) rfl (by kernel_rfl) (by kernel_rfl) (by kernel_rfl) (fun _ _ _ h => h) (Or.inl ⟨by kernel_rfl, ?_⟩) hHeld ?_
      rotate_left
      · (rintro W ⟨⟨e0, e1, e2, e3, e4, _⟩, ⟨f0, f1, f2, f3, f4, _⟩⟩; go_simp; (try with_reducible rfl))
      (try simp only [Act.put, List.getElem_toArray, List.getElem_cons_succ, List.getElem_cons_zero, List.setIfInBounds_toArray, List.set_cons_succ, List.set_cons_zero])
      refine wpAnyH_take (i := 7) (v := ?_) rfl (by kernel_rfl) (by kernel_rfl) (by kernel_rfl) (fun _ _ _ h => h) (Or.inl ⟨by kernel_rfl, ?_⟩) hHeld ?_
      rotate_left
      · (rintro W ⟨⟨e0, e1, e2, e3, e4, _⟩, ⟨f0, f1, f2, f3, f4, _⟩⟩; go_simp; (try with_reducible rfl))
      (try simp only [Act.put, List.getElem_toArray, List.getElem_cons_succ, List.getElem_cons_zero, List.setIfInBounds_toArray, List.set_cons_succ, List.set_cons_zero])
      refine wpAnyH_take (i := 8) (v := ?_) rfl (by kernel_rfl) (by kernel_rfl) (by kernel_rfl) (fun _ _ _ h => h) (Or.inl ⟨by kernel_rfl, ?_⟩) hHeld ?_
      rotate_left
      · (rintro W ⟨⟨e0, e1, e2, e3, e4, _⟩, ⟨f0, f1, f2, f3, f4, _⟩⟩; go_simp; (try with_reducible rfl))
      (try simp only [Act.put, List.getElem_toArray, List.getElem_cons_succ, List.getElem_cons_zero, List.setIfInBounds_toArray, List.set_cons_succ, List.set_cons_zero])
      refine wpAnyH_take (i := 9) (v := ?_) rfl (by kernel_rfl) (by kernel_rfl) (by kernel_rfl) (fun _ _ _ h => h) (Or.inl ⟨by kernel_rfl, ?_⟩) hHeld ?_
      rotate_left
      · (rintro W ⟨⟨e0, e1, e2, e3, e4, _⟩, ⟨f0, f1, f2, f3, f4, _⟩⟩; go_simp; (try with_reducible rfl))
      (try simp only [Act.put, List.getElem_toArray, List.getElem_cons_succ, List.getElem_cons_zero, List.setIfInBounds_toArray, List.set_cons_succ, List.set_cons_zero])
      refine wpAnyH_take (i := 10) (v := ?_) rfl (by kernel_rfl) (by kernel_rfl) (by kernel_rfl) (fun _ _ _ h => h) (Or.inl ⟨by kernel_rfl, ?_⟩) hHeld ?_
      rotate_left
      · (rintro W ⟨⟨e0, e1, e2, e3, e4, _⟩, ⟨f0, f1, f2, f3, f4, _⟩⟩; go_simp; (try with_reducible rfl))
      (try simp only [Act.put, List.getElem_toArray, List.getElem_cons_succ, List.getElem_cons_zero, List.setIfInBounds_toArray, List.set_cons_succ, List.set_cons_zero])
      refine wpAnyH_take (i := 11) (v := ?_) rfl (by kernel_rfl) (by kernel_rfl) (by kernel_rfl) (fun _ _ _ h => h) (Or.inl ⟨by kernel_rfl, ?_⟩) hHeld ?_
      rotate_left
      · (rintro W ⟨⟨e0, e1, e2, e3, e4, _⟩, ⟨f0, f1, f2, f3, f4, _⟩⟩; go_simp; (try with_reducible rfl))
      (try simp only [Act.put, List.getElem_toArray, List.getElem_cons_succ, List.getElem_cons_zero, List.setIfInBounds_toArray, List.set_cons_succ, List.set_cons_zero])
      refine wpAnyH_take (i := 12) (v := ?_) rfl (by kernel_rfl) (by kernel_rfl) (by kernel_rfl) (fun _ _ _ h => h) (Or.inl ⟨by kernel_rfl, ?_⟩) hHeld ?_
      rotate_left
      · (rintro W ⟨⟨e0, e1, e2, e3, e4, _⟩, ⟨f0, f1, f2, f3, f4, _⟩⟩; go_simp; (try with_reducible rfl))
      (try simp only [Act.put, List.getElem_toArray, List.getElem_cons_succ, List.getElem_cons_zero, List.setIfInBounds_toArray, List.set_cons_succ, List.set_cons_zero])
      refine wpAnyH_take (i := 13) (v := ?_) rfl (by kernel_rfl) (by kernel_rfl) (by kernel_rfl) (fun _ _ _ h => h) (Or.inl ⟨by kernel_rfl, ?_⟩) hHeld ?_
      rotate_left
      · (rintro W ⟨⟨e0, e1, e2, e3, e4, _⟩, ⟨f0, f1, f2, f3, f4, _⟩⟩; go_simp; (try with_reducible rfl))
      (try simp only [Act.put, List.getElem_toArray, List.getElem_cons_succ, List.getElem_cons_zero, List.setIfInBounds_toArray, List.set_cons_succ, List.set_cons_zero])
      refine wpAnyH_ready (rs := [14]) (by kernel_rfl) (by simp) ?_
      refine AllReadyH.cons rfl (fun K hK => ?_) AllReadyH.nil
      go_simp
      refine (keepS PkT.on hHeld (HT.out _)).mono ?_
      rintro e w5 ⟨rfl, hk5⟩
      refine hK.out _ _ (hk5) (fun hHeld => ?_)
      clear hK K
      (try simp only [Act.put, List.getElem_toArray, List.getElem_cons_succ, List.getElem_cons_zero, List.setIfInBounds_toArray, List.set_cons_succ, List.set_cons_zero])
      refine wpAnyH_take (i := 15) (v := ?_) rfl (by kernel_rfl) (by kernel_rfl) (by kernel_rfl) (fun _ _ _ h => h) (Or.inl ⟨by kernel_rfl, ?_⟩) hHeld ?_
      rotate_left
      · (rintro W ⟨⟨e0, e1, e2, e3, e4, _⟩, ⟨f0, f1, f2, f3, f4, _⟩⟩; go_simp; (try with_reducible rfl))
      (try simp only [Act.put, List.getElem_toArray, List.getElem_cons_succ, List.getElem_cons_zero, List.setIfInBounds_toArray, List.set_cons_succ, List.set_cons_zero])
      refine wpAnyH_take (i := 16) (v := ?_) rfl (by kernel_rfl) (by kernel_rfl) (by kernel_rfl) (fun _ _ _ h => h) (Or.inl ⟨by kernel_rfl, ?_⟩) hHeld ?_
      rotate_left
      · (rintro W ⟨⟨e0, e1, e2, e3, e4, _⟩, ⟨f0, f1, f2, f3, f4, _⟩⟩; go_simp; (try with_reducible rfl))
      (try simp only [Act.put, List.getElem_toArray, List.getElem_cons_succ, List.getElem_cons_zero, List.setIfInBounds_toArray, List.set_cons_succ, List.set_cons_zero])
      refine wpAnyH_take (i := 17) (v := ?_) rfl (by kernel_rfl) (by kernel_rfl) (by kernel_rfl) (fun _ _ _ h => h) (Or.inl ⟨by kernel_rfl, ?_⟩) hHeld ?_
      rotate_left
      · (rintro W ⟨⟨e0, e1, e2, e3, e4, _⟩, ⟨f0, f1, f2, f3, f4, _⟩⟩; go_simp; (try with_reducible rfl))
      (try simp only [Act.put, List.getElem_toArray, List.getElem_cons_succ, List.getElem_cons_zero, List.setIfInBounds_toArray, List.set_cons_succ, List.set_cons_zero])
      refine wpAnyH_done (by kernel_rfl) ?_ _
      have hbF := below_then hb6.drew hHeld.1.2.2.2.2.2
      clear hHeld
      go_wp2_with fail
      go_roundw
      case rel => exact ⟨i + 1, k, _, hilt, hk, by go_num, rfl, rfl, HN.out, hbF⟩
      case measure => simp [intOf]; omega
    have q6 := less_names nm nn false (decide_eq_false hl1)
    by_cases hl2 : nn.data.toList < nm.data.toList
    · have q7 := less_names nn nm true (decide_eq_true hl2)
      have HC1 := Lib.hid hl1
      have HC2 := Lib.hid hl2
      clear hl1 hl2
      obtain ⟨A1, hA1⟩ : ∃ c, A ++ ⟨#[43, 32]⟩ = c := ⟨_, rfl⟩
      have sA1 : A1.size ≤ A.size + 2 := by rw [← hA1, ByteArray.size_append]; exact Nat.add_le_add_left (by first | decide | assumption) _
      have rA1 := add_as (P := Tryz.prog) hA1 (by omega)
      obtain ⟨A2, hA2⟩ : ∃ c, A1 ++ nn = c := ⟨_, rfl⟩
      have sA2 : A2.size ≤ A1.size + 24 := by rw [← hA2, ByteArray.size_append]; exact Nat.add_le_add_left (by first | decide | assumption) _
      have rA2 := add_as (P := Tryz.prog) hA2 (by omega)
      obtain ⟨A3, hA3⟩ : ∃ c, A2 ++ ⟨#[32]⟩ = c := ⟨_, rfl⟩
      have sA3 : A3.size ≤ A2.size + 1 := by rw [← hA3, ByteArray.size_append]; exact Nat.add_le_add_left (by first | decide | assumption) _
      have rA3 := add_as (P := Tryz.prog) hA3 (by omega)
      obtain ⟨A4, hA4⟩ : ∃ c, A3 ++ U = c := ⟨_, rfl⟩
      have sA4 : A4.size ≤ A3.size + 45 := by rw [← hA4, ByteArray.size_append]; exact Nat.add_le_add_left (by first | decide | assumption) _
      have rA4 := add_as (P := Tryz.prog) hA4 (by omega)
      obtain ⟨A5, hA5⟩ : ∃ c, A4 ++ ⟨#[10]⟩ = c := ⟨_, rfl⟩
      have sA5 : A5.size ≤ A4.size + 1 := by rw [← hA5, ByteArray.size_append]; exact Nat.add_le_add_left (by first | decide | assumption) _
      have rA5 := add_as (P := Tryz.prog) hA5 (by omega)
      have HN : Hid (UpAt ps qs i (k + 1) A5.data.toList) := by
        have h := up_plus HUp.out hklt (.inr ⟨hilt, by rw [hnx, hnz]; exact HC1.out, by rw [hnx, hnz]; exact HC2.out⟩)
        rw [hze] at h
        have e : A5.data.toList = A.data.toList ++ plusL ⟨nn, z⟩ := by rw [← hA5, ← hA4, ← hA3, ← hA2, ← hA1, ← hU]; simp [S, plusL, Pik.line, Pik.nm]
        rw [e]; exact h
      clear hA1 hA2 hA3 hA4 hA5 hze hU
      go_wp2_with fail
      refine wp_region_held_drew (S := (fun W => PkT bx (ox + i * 5) nm y bz (oz + k * 5) nn z wr.drew W)) (by kernel_rfl) (hss) (fun hHeld => ?_)
      refine wpAnyH_take (i := 0) (v := ?_) rfl (by kernel_rfl) (by kernel_rfl) (by kernel_rfl) (fun _ _ _ h => h) (Or.inl ⟨by kernel_rfl, ?_⟩) hHeld ?_
      rotate_left
      · (rintro W ⟨⟨e0, e1, e2, e3, e4, _⟩, ⟨f0, f1, f2, f3, f4, _⟩⟩; go_simp; (try with_reducible rfl))
      (try simp only [Act.put, List.getElem_toArray, List.getElem_cons_zero, List.setIfInBounds_toArray, List.set_cons_succ, List.set_cons_zero])
      refine wpAnyH_take (i := 1) (v := ?_) rfl (by kernel_rfl) (by kernel_rfl) (by kernel_rfl) (fun _ _ _ h => h) (Or.inl ⟨by kernel_rfl, ?_⟩) hHeld ?_
      rotate_left
      · (rintro W ⟨⟨e0, e1, e2, e3, e4, _⟩, ⟨f0, f1, f2, f3, f4, _⟩⟩; go_simp; (try with_reducible rfl))
      (try simp only [Act.put, List.getElem_toArray, List.getElem_cons_succ, List.getElem_cons_zero, List.setIfInBounds_toArray, List.set_cons_succ, List.set_cons_zero])
      refine wpAnyH_take (i := 2) (v := ?_) rfl (by kernel_rfl) (by kernel_rfl) (by kernel_rfl) (fun _ _ _ h => h) (Or.inl ⟨by kernel_rfl, ?_⟩) hHeld ?_
      rotate_left
      · (rintro W ⟨⟨e0, e1, e2, e3, e4, _⟩, ⟨f0, f1, f2, f3, f4, _⟩⟩; go_simp; (try with_reducible rfl))
      (try simp only [Act.put, List.getElem_toArray, List.getElem_cons_succ, List.getElem_cons_zero, List.setIfInBounds_toArray, List.set_cons_succ, List.set_cons_zero])
      refine wpAnyH_take (i := 3) (v := ?_) rfl (by kernel_rfl) (by kernel_rfl) (by kernel_rfl) (fun _ _ _ h => h) (Or.inl ⟨by kernel_rfl, ?_⟩) hHeld ?_
      rotate_left
      · (rintro W ⟨⟨e0, e1, e2, e3, e4, _⟩, ⟨f0, f1, f2, f3, f4, _⟩⟩; go_simp; (try with_reducible rfl))
      (try simp only [Act.put, List.getElem_toArray, List.getElem_cons_succ, List.getElem_cons_zero, List.setIfInBounds_toArray, List.set_cons_succ, List.set_cons_zero])
      refine wpAnyH_take (i := 4) (v := ?_) rfl (by kernel_rfl) (by kernel_rfl) (by kernel_rfl) (fun _ _ _ h => h) (Or.inl ⟨by kernel_rfl, ?_⟩) hHeld ?_
      rotate_left
      · (rintro W ⟨⟨e0, e1, e2, e3, e4, _⟩, ⟨f0, f1, f2, f3, f4, _⟩⟩; go_simp; (try with_reducible rfl))
      (try simp only [Act.put, List.getElem_toArray, List.getElem_cons_succ, List.getElem_cons_zero, List.setIfInBounds_toArray, List.set_cons_succ, List.set_cons_zero])
      refine wpAnyH_take (i := 5) (v := ?_) rfl (by kernel_rfl) (by kernel_rfl) (by kernel_rfl) (fun _ _ _ h => h) (Or.inl ⟨by kernel_rfl, ?_⟩) hHeld ?_
      rotate_left
      · (rintro W ⟨⟨e0, e1, e2, e3, e4, _⟩, ⟨f0, f1, f2, f3, f4, _⟩⟩; go_simp; (try with_reducible rfl))
      (try simp only [Act.put, List.getElem_toArray, List.getElem_cons_succ, List.getElem_cons_zero, List.setIfInBounds_toArray, List.set_cons_succ, List.set_cons_zero])
      refine wpAnyH_take (i := 6) (v := ?_) rfl (by kernel_rfl) (by kernel_rfl) (by kernel_rfl) (fun _ _ _ h => h) (Or.inl ⟨by kernel_rfl, ?_⟩) hHeld ?_
      rotate_left
      · (rintro W ⟨⟨e0, e1, e2, e3, e4, _⟩, ⟨f0, f1, f2, f3, f4, _⟩⟩; go_simp; (try with_reducible rfl))
      (try simp only [Act.put, List.getElem_toArray, List.getElem_cons_succ, List.getElem_cons_zero, List.setIfInBounds_toArray, List.set_cons_succ, List.set_cons_zero])
      refine wpAnyH_take (i := 7) (v := ?_) rfl (by kernel_rfl) (by kernel_rfl) (by kernel_rfl) (fun _ _ _ h => h) (Or.inl ⟨by kernel_rfl, ?_⟩) hHeld ?_
      rotate_left
      · (rintro W ⟨⟨e0, e1, e2, e3, e4, _⟩, ⟨f0, f1, f2, f3, f4, _⟩⟩; go_simp; (try with_reducible rfl))
      (try simp only [Act.put, List.getElem_toArray, List.getElem_cons_succ, List.getElem_cons_zero, List.setIfInBounds_toArray, List.set_cons_succ, List.set_cons_zero])
      refine wpAnyH_take (i := 8) (v := ?_) rfl (by kernel_rfl) (by kernel_rfl) (by kernel_rfl) (fun _ _ _ h => h) (Or.inl ⟨by kernel_rfl, ?_⟩) hHeld ?_
      rotate_left
      · (rintro W ⟨⟨e0, e1, e2, e3, e4, _⟩, ⟨f0, f1, f2, f3, f4, _⟩⟩; go_simp; (try with_reducible rfl))
      (try simp only [Act.put, List.getElem_toArray, List.getElem_cons_succ, List.getElem_cons_zero, List.setIfInBounds_toArray, List.set_cons_succ, List.set_cons_zero])
      refine wpAnyH_take (i := 9) (v := ?_) rfl (by kernel_rfl) (by kernel_rfl) (by kernel_rfl) (fun _ _ _ h => h) (Or.inl ⟨by kernel_rfl, ?_⟩) hHeld ?_
      rotate_left
      · (rintro W ⟨⟨e0, e1, e2, e3, e4, _⟩, ⟨f0, f1, f2, f3, f4, _⟩⟩; go_simp; (try with_reducible rfl))
      (try simp only [Act.put, List.getElem_toArray, List.getElem_cons_succ, List.getElem_cons_zero, List.setIfInBounds_toArray, List.set_cons_succ, List.set_cons_zero])
      refine wpAnyH_take (i := 10) (v := ?_) rfl (by kernel_rfl) (by kernel_rfl) (by kernel_rfl) (fun _ _ _ h => h) (Or.inl ⟨by kernel_rfl, ?_⟩) hHeld ?_
      rotate_left
      · (rintro W ⟨⟨e0, e1, e2, e3, e4, _⟩, ⟨f0, f1, f2, f3, f4, _⟩⟩; go_simp; (try with_reducible rfl))
      (try simp only [Act.put, List.getElem_toArray, List.getElem_cons_succ, List.getElem_cons_zero, List.setIfInBounds_toArray, List.set_cons_succ, List.set_cons_zero])
      refine wpAnyH_take (i := 11) (v := ?_) rfl (by kernel_rfl) (by kernel_rfl) (by kernel_rfl) (fun _ _ _ h => h) (Or.inl ⟨by kernel_rfl, ?_⟩) hHeld ?_
      rotate_left
      · (rintro W ⟨⟨e0, e1, e2, e3, e4, _⟩, ⟨f0, f1, f2, f3, f4, _⟩⟩; go_simp; (try with_reducible rfl))
      (try simp only [Act.put, List.getElem_toArray, List.getElem_cons_succ, List.getElem_cons_zero, List.setIfInBounds_toArray, List.set_cons_succ, List.set_cons_zero])
      refine wpAnyH_take (i := 12) (v := ?_) rfl (by kernel_rfl) (by kernel_rfl) (by kernel_rfl) (fun _ _ _ h => h) (Or.inl ⟨by kernel_rfl, ?_⟩) hHeld ?_
      rotate_left
      · (rintro W ⟨⟨e0, e1, e2, e3, e4, _⟩, ⟨f0, f1, f2, f3, f4, _⟩⟩; go_simp; (try with_reducible rfl))
      (try simp only [Act.put, List.getElem_toArray, List.getElem_cons_succ, List.getElem_cons_zero, List.setIfInBounds_toArray, List.set_cons_succ, List.set_cons_zero])
      refine wpAnyH_take (i := 13) (v := ?_) rfl (by kernel_rfl) (by kernel_rfl) (by kernel_rfl) (fun _ _ _ h => h) (Or.inl ⟨by kernel_rfl, ?_⟩) hHeld ?_
      rotate_left
      · (rintro W ⟨⟨e0, e1, e2, e3, e4, _⟩, ⟨f0, f1, f2, f3, f4, _⟩⟩; go_simp; (try with_reducible rfl))
      (try simp only [Act.put, List.getElem_toArray, List.getElem_cons_succ, List.getElem_cons_zero, List.setIfInBounds_toArray, List.set_cons_succ, List.set_cons_zero])
      refine wpAnyH_take (i := 14) (v := ?_) rfl (by kernel_rfl) (by kernel_rfl) (by kernel_rfl) (fun _ _ _ h => h) (Or.inl ⟨by kernel_rfl, ?_⟩) hHeld ?_
      rotate_left
      · (rintro W ⟨⟨e0, e1, e2, e3, e4, _⟩, ⟨f0, f1, f2, f3, f4, _⟩⟩; go_simp; (try with_reducible rfl))
      (try simp only [Act.put, List.getElem_toArray, List.getElem_cons_succ, List.getElem_cons_zero, List.setIfInBounds_toArray, List.set_cons_succ, List.set_cons_zero])
      refine wpAnyH_take (i := 15) (v := ?_) rfl (by kernel_rfl) (by kernel_rfl) (by kernel_rfl) (fun _ _ _ h => h) (Or.inl ⟨by kernel_rfl, ?_⟩) hHeld ?_
      rotate_left
      · (rintro W ⟨⟨e0, e1, e2, e3, e4, _⟩, ⟨f0, f1, f2, f3, f4, _⟩⟩; go_simp; (try with_reducible rfl))
      (try simp only [Act.put, List.getElem_toArray, List.getElem_cons_succ, List.getElem_cons_zero, List.setIfInBounds_toArray, List.set_cons_succ, List.set_cons_zero])
      refine wpAnyH_take (i := 16) (v := ?_) rfl (by kernel_rfl) (by kernel_rfl) (by kernel_rfl) (fun _ _ _ h => h) (Or.inl ⟨by kernel_rfl, ?_⟩) hHeld ?_
      rotate_left
      · (rintro W ⟨⟨e0, e1, e2, e3, e4, _⟩, ⟨f0, f1, f2, f3, f4, _⟩⟩; go_simp; (try with_reducible rfl))
      (try simp only [Act.put, List.getElem_toArray, List.getElem_cons_succ, List.getElem_cons_zero, List.setIfInBounds_toArray, List.set_cons_succ, List.set_cons_zero])
      refine wpAnyH_take (i := 17) (v := ?_) rfl (by kernel_rfl) (by kernel_rfl) (by kernel_rfl) (fun _ _ _ h => h) (Or.inl ⟨by kernel_rfl, ?_⟩) hHeld ?_
      rotate_left
      · (rintro W ⟨⟨e0, e1, e2, e3, e4, _⟩, ⟨f0, f1, f2, f3, f4, _⟩⟩; go_simp; (try with_reducible rfl))
      (try simp only [Act.put, List.getElem_toArray, List.getElem_cons_succ, List.getElem_cons_zero, List.setIfInBounds_toArray, List.set_cons_succ, List.set_cons_zero])
      refine wpAnyH_take (i := 18) (v := ?_) rfl (by kernel_rfl) (by kernel_rfl) (by kernel_rfl) (fun _ _ _ h => h) (Or.inl ⟨by kernel_rfl, ?_⟩) hHeld ?_
      rotate_left
      · (rintro W ⟨⟨e0, e1, e2, e3, e4, _⟩, ⟨f0, f1, f2, f3, f4, _⟩⟩; go_simp; (try with_reducible rfl))
      (try simp only [Act.put, List.getElem_toArray, List.getElem_cons_succ, List.getElem_cons_zero, List.setIfInBounds_toArray, List.set_cons_succ, List.set_cons_zero])
      refine wpAnyH_take (i := 19) (v := ?_) rfl (by kernel_rfl) (by kernel_rfl) (by kernel_rfl) (fun _ _ _ h => h) (Or.inl ⟨by kernel_rfl, ?_⟩) hHeld ?_
      rotate_left
      · (rintro W ⟨⟨e0, e1, e2, e3, e4, _⟩, ⟨f0, f1, f2, f3, f4, _⟩⟩; go_simp; (try with_reducible rfl))
      (try simp only [Act.put, List.getElem_toArray, List.getElem_cons_succ, List.getElem_cons_zero, List.setIfInBounds_toArray, List.set_cons_succ, List.set_cons_zero])
      refine wpAnyH_take (i := 20) (v := ?_) rfl (by kernel_rfl) (by kernel_rfl) (by kernel_rfl) (fun _ _ _ h => h) (Or.inl ⟨by kernel_rfl, ?_⟩) hHeld ?_
      rotate_left
      · (rintro W ⟨⟨e0, e1, e2, e3, e4, _⟩, ⟨f0, f1, f2, f3, f4, _⟩⟩; go_simp; (try with_reducible rfl))
      (try simp only [Act.put, List.getElem_toArray, List.getElem_cons_succ, List.getElem_cons_zero, List.setIfInBounds_toArray, List.set_cons_succ, List.set_cons_zero])
      refine wpAnyH_take (i := 21) (v := ?_) rfl (by kernel_rfl) (by kernel_rfl) (by kernel_rfl) (fun _ _ _ h => h) (Or.inl ⟨by kernel_rfl, ?_⟩) hHeld ?_
      rotate_left
      · (rintro W ⟨⟨e0, e1, e2, e3, e4, _⟩, ⟨f0, f1, f2, f3, f4, _⟩⟩; go_simp; (try with_reducible rfl))
      (try simp only [Act.put, List.getElem_toArray, List.getElem_cons_succ, List.getElem_cons_zero, List.setIfInBounds_toArray, List.set_cons_succ, List.set_cons_zero])
      refine wpAnyH_take (i := 22) (v := ?_) rfl (by kernel_rfl) (by kernel_rfl) (by kernel_rfl) (fun _ _ _ h => h) (Or.inl ⟨by kernel_rfl, ?_⟩) hHeld ?_
      rotate_left
      · (rintro W ⟨⟨e0, e1, e2, e3, e4, _⟩, ⟨f0, f1, f2, f3, f4, _⟩⟩; go_simp; (try with_reducible rfl))
      (try simp only [Act.put, List.getElem_toArray, List.getElem_cons_succ, List.getElem_cons_zero, List.setIfInBounds_toArray, List.set_cons_succ, List.set_cons_zero])
      refine wpAnyH_done (by kernel_rfl) ?_ _
      have hb6 := below_then HD.out hHeld.1.2.2.2.2.2
      have hst6 := PkT.drewn hHeld
      clear hHeld
      go_wp2_with fail
      refine wp_region_held_drew (S := (fun W => PkT bx (ox + i * 5) nm y bz (oz + k * 5) nn z _ W)) (by kernel_rfl) (hst6) (fun hHeld => ?_)
      refine wpAnyH_take (i := 0) (v := ?_) rfl (by kernel_rfl) (by kernel_rfl) (by kernel_rfl) (fun _ _ _ h => h) (Or.inl ⟨by kernel_rfl, ?_⟩) hHeld ?_
      rotate_left
      · (rintro W ⟨⟨e0, e1, e2, e3, e4, _⟩, ⟨f0, f1, f2, f3, f4, _⟩⟩; go_simp; (try with_reducible rfl))
      (try simp only [Act.put, List.getElem_toArray, List.getElem_cons_zero, List.setIfInBounds_toArray, List.set_cons_succ, List.set_cons_zero])
      refine wpAnyH_take (i := 1) (v := ?_) rfl (by kernel_rfl) (by kernel_rfl) (by kernel_rfl) (fun _ _ _ h => h) (Or.inl ⟨by kernel_rfl, ?_⟩) hHeld ?_
      rotate_left
      · (rintro W ⟨⟨e0, e1, e2, e3, e4, _⟩, ⟨f0, f1, f2, f3, f4, _⟩⟩; go_simp; (try with_reducible rfl))
      (try simp only [Act.put, List.getElem_toArray, List.getElem_cons_succ, List.getElem_cons_zero, List.setIfInBounds_toArray, List.set_cons_succ, List.set_cons_zero])
      refine wpAnyH_take (i := 2) (v := ?_) rfl (by kernel_rfl) (by kernel_rfl) (by kernel_rfl) (fun _ _ _ h => h) (Or.inl ⟨by kernel_rfl, ?_⟩) hHeld ?_
      rotate_left
      · (rintro W ⟨⟨e0, e1, e2, e3, e4, _⟩, ⟨f0, f1, f2, f3, f4, _⟩⟩; go_simp; (try with_reducible rfl))
      (try simp only [Act.put, List.getElem_toArray, List.getElem_cons_succ, List.getElem_cons_zero, List.setIfInBounds_toArray, List.set_cons_succ, List.set_cons_zero])
      refine wpAnyH_take (i := 3) (v := ?_) rfl (by kernel_rfl) (by kernel_rfl) (by kernel_rfl) (fun _ _ _ h => h) (Or.inl ⟨by kernel_rfl, ?_⟩) hHeld ?_
      rotate_left
      · (rintro W ⟨⟨e0, e1, e2, e3, e4, _⟩, ⟨f0, f1, f2, f3, f4, _⟩⟩; go_simp; (try with_reducible rfl))
      (try simp only [Act.put, List.getElem_toArray, List.getElem_cons_succ, List.getElem_cons_zero, List.setIfInBounds_toArray, List.set_cons_succ, List.set_cons_zero])
      refine wpAnyH_take (i := 4) (v := ?_) rfl (by kernel_rfl) (by kernel_rfl) (by kernel_rfl) (fun _ _ _ h => h) (Or.inl ⟨by kernel_rfl, ?_⟩) hHeld ?_
      rotate_left
      · (rintro W ⟨⟨e0, e1, e2, e3, e4, _⟩, ⟨f0, f1, f2, f3, f4, _⟩⟩; go_simp; (try with_reducible rfl))
      (try simp only [Act.put, List.getElem_toArray, List.getElem_cons_succ, List.getElem_cons_zero, List.setIfInBounds_toArray, List.set_cons_succ, List.set_cons_zero])
      refine wpAnyH_take (i := 5) (v := ?_) rfl (by kernel_rfl) (by kernel_rfl) (by kernel_rfl) (fun _ _ _ h => h) (Or.inl ⟨by kernel_rfl, ?_⟩) hHeld ?_
      rotate_left
      · (rintro W ⟨⟨e0, e1, e2, e3, e4, _⟩, ⟨f0, f1, f2, f3, f4, _⟩⟩; go_simp; (try with_reducible rfl))
      (try simp only [Act.put, List.getElem_toArray, List.getElem_cons_succ, List.getElem_cons_zero, List.setIfInBounds_toArray, List.set_cons_succ, List.set_cons_zero])
      refine wpAnyH_take (i := 6) (v := ?_) rfl (by kernel_rfl) (by kernel_rfl) (by kernel_rfl) (fun _ _ _ h => h) (Or.inl ⟨by kernel_rfl, ?_⟩) hHeld ?_
      rotate_left
      · (rintro W ⟨⟨e0, e1, e2, e3, e4, _⟩, ⟨f0, f1, f2, f3, f4, _⟩⟩; go_simp; (try with_reducible rfl))
      (try simp only [Act.put, List.getElem_toArray, List.getElem_cons_succ, List.getElem_cons_zero, List.setIfInBounds_toArray, List.set_cons_succ, List.set_cons_zero])
      refine wpAnyH_take (i := 7) (v := ?_) rfl (by kernel_rfl) (by kernel_rfl) (by kernel_rfl) (fun _ _ _ h => h) (Or.inl ⟨by kernel_rfl, ?_⟩) hHeld ?_
      rotate_left
      · (rintro W ⟨⟨e0, e1, e2, e3, e4, _⟩, ⟨f0, f1, f2, f3, f4, _⟩⟩; go_simp; (try with_reducible rfl))
      (try simp only [Act.put, List.getElem_toArray, List.getElem_cons_succ, List.getElem_cons_zero, List.setIfInBounds_toArray, List.set_cons_succ, List.set_cons_zero])
      refine wpAnyH_take (i := 8) (v := ?_) rfl (by kernel_rfl) (by kernel_rfl) (by kernel_rfl) (fun _ _ _ h => h) (Or.inl ⟨by kernel_rfl, ?_⟩) hHeld ?_
      rotate_left
      · (rintro W ⟨⟨e0, e1, e2, e3, e4, _⟩, ⟨f0, f1, f2, f3, f4, _⟩⟩; go_simp; (try with_reducible rfl))
      (try simp only [Act.put, List.getElem_toArray, List.getElem_cons_succ, List.getElem_cons_zero, List.setIfInBounds_toArray, List.set_cons_succ, List.set_cons_zero])
      refine wpAnyH_take (i := 9) (v := ?_) rfl (by kernel_rfl) (by kernel_rfl) (by kernel_rfl) (fun _ _ _ h => h) (Or.inl ⟨by kernel_rfl, ?_⟩) hHeld ?_
      rotate_left
      · (rintro W ⟨⟨e0, e1, e2, e3, e4, _⟩, ⟨f0, f1, f2, f3, f4, _⟩⟩; go_simp; (try with_reducible rfl))
      (try simp only [Act.put, List.getElem_toArray, List.getElem_cons_succ, List.getElem_cons_zero, List.setIfInBounds_toArray, List.set_cons_succ, List.set_cons_zero])
      refine wpAnyH_take (i := 10) (v := ?_) rfl (by kernel_rfl) (by kernel_rfl) (by kernel_rfl) (fun _ _ _ h => h) (Or.inl ⟨by kernel_rfl, ?_⟩) hHeld ?_
      rotate_left
      · (rintro W ⟨⟨e0, e1, e2, e3, e4, _⟩, ⟨f0, f1, f2, f3, f4, _⟩⟩; go_simp; (try with_reducible rfl))
      (try simp only [Act.put, List.getElem_toArray, List.getElem_cons_succ, List.getElem_cons_zero, List.setIfInBounds_toArray, List.set_cons_succ, List.set_cons_zero])
      refine wpAnyH_take (i := 11) (v := ?_) rfl (by kernel_rfl) (by kernel_rfl) (by kernel_rfl) (fun _ _ _ h => h) (Or.inl ⟨by kernel_rfl, ?_⟩) hHeld ?_
      rotate_left
      · (rintro W ⟨⟨e0, e1, e2, e3, e4, _⟩, ⟨f0, f1, f2, f3, f4, _⟩⟩; go_simp; (try with_reducible rfl))
      (try simp only [Act.put, List.getElem_toArray, List.getElem_cons_succ, List.getElem_cons_zero, List.setIfInBounds_toArray, List.set_cons_succ, List.set_cons_zero])
      refine wpAnyH_take (i := 12) (v := ?_) rfl (by kernel_rfl) (by kernel_rfl) (by kernel_rfl) (fun _ _ _ h => h) (Or.inl ⟨by kernel_rfl, ?_⟩) hHeld ?_
      rotate_left
      · (rintro W ⟨⟨e0, e1, e2, e3, e4, _⟩, ⟨f0, f1, f2, f3, f4, _⟩⟩; go_simp; (try with_reducible rfl))
      (try simp only [Act.put, List.getElem_toArray, List.getElem_cons_succ, List.getElem_cons_zero, List.setIfInBounds_toArray, List.set_cons_succ, List.set_cons_zero])
      refine wpAnyH_take (i := 13) (v := ?_) rfl (by kernel_rfl) (by kernel_rfl) (by kernel_rfl) (fun _ _ _ h => h) (Or.inl ⟨by kernel_rfl, ?_⟩) hHeld ?_
      rotate_left
      · (rintro W ⟨⟨e0, e1, e2, e3, e4, _⟩, ⟨f0, f1, f2, f3, f4, _⟩⟩; go_simp; (try with_reducible rfl))
      (try simp only [Act.put, List.getElem_toArray, List.getElem_cons_succ, List.getElem_cons_zero, List.setIfInBounds_toArray, List.set_cons_succ, List.set_cons_zero])
      refine wpAnyH_take (i := 14) (v := ?_) rfl (by kernel_rfl) (by kernel_rfl) (by kernel_rfl) (fun _ _ _ h => h) (Or.inl ⟨by kernel_rfl, ?_⟩) hHeld ?_
      rotate_left
      · (rintro W ⟨⟨e0, e1, e2, e3, e4, _⟩, ⟨f0, f1, f2, f3, f4, _⟩⟩; go_simp; (try with_reducible rfl))
      (try simp only [Act.put, List.getElem_toArray, List.getElem_cons_succ, List.getElem_cons_zero, List.setIfInBounds_toArray, List.set_cons_succ, List.set_cons_zero])
      refine wpAnyH_take (i := 15) (v := ?_) rfl (by kernel_rfl) (by kernel_rfl) (by kernel_rfl) (fun _ _ _ h => h) (Or.inl ⟨by kernel_rfl, ?_⟩) hHeld ?_
      rotate_left
      · (rintro W ⟨⟨e0, e1, e2, e3, e4, _⟩, ⟨f0, f1, f2, f3, f4, _⟩⟩; go_simp; (try with_reducible rfl))
      (try simp only [Act.put, List.getElem_toArray, List.getElem_cons_succ, List.getElem_cons_zero, List.setIfInBounds_toArray, List.set_cons_succ, List.set_cons_zero])
      refine wpAnyH_take (i := 16) (v := ?_) rfl (by kernel_rfl) (by kernel_rfl) (by kernel_rfl) (fun _ _ _ h => h) (Or.inl ⟨by kernel_rfl, ?_⟩) hHeld ?_
      rotate_left
      · (rintro W ⟨⟨e0, e1, e2, e3, e4, _⟩, ⟨f0, f1, f2, f3, f4, _⟩⟩; go_simp; (try with_reducible rfl))
      (try simp only [Act.put, List.getElem_toArray, List.getElem_cons_succ, List.getElem_cons_zero, List.setIfInBounds_toArray, List.set_cons_succ, List.set_cons_zero])
      refine wpAnyH_done (by kernel_rfl) ?_ _
      have hb9 := below_then hb6.drew hHeld.1.2.2.2.2.2
      have hst9 := PkT.drewn hHeld
      clear hHeld hst6
      go_wp2_with fail
      refine wp_region_held_drew (S := (fun W => PkT bx (ox + i * 5) nm y bz (oz + k * 5) nn z _ W)) (by kernel_rfl) (hst9) (fun hHeld => ?_)
      refine wpAnyH_take (i := 0) (v := ?_) rfl (by kernel_rfl) (by kernel_rfl) (by kernel_rfl) (fun _ _ _ h => h) (Or.inl ⟨by kernel_rfl, ?_⟩) hHeld ?_
      rotate_left
      · (rintro W ⟨⟨e0, e1, e2, e3, e4, _⟩, ⟨f0, f1, f2, f3, f4, _⟩⟩; go_simp; (try with_reducible rfl))
      (try simp only [Act.put, List.getElem_toArray, List.getElem_cons_zero, List.setIfInBounds_toArray, List.set_cons_succ, List.set_cons_zero])
      refine wpAnyH_take (i := 1) (v := ?_) rfl (by kernel_rfl) (by kernel_rfl) (by kernel_rfl) (fun _ _ _ h => h) (Or.inl ⟨by kernel_rfl, ?_⟩) hHeld ?_
      rotate_left
      · (rintro W ⟨⟨e0, e1, e2, e3, e4, _⟩, ⟨f0, f1, f2, f3, f4, _⟩⟩; go_simp; (try with_reducible rfl))
      (try simp only [Act.put, List.getElem_toArray, List.getElem_cons_succ, List.getElem_cons_zero, List.setIfInBounds_toArray, List.set_cons_succ, List.set_cons_zero])
      refine wpAnyH_take (i := 2) (v := ?_) rfl (by kernel_rfl) (by kernel_rfl) (by kernel_rfl) (fun _ _ _ h => h) (Or.inl ⟨by kernel_rfl, ?_⟩) hHeld ?_
      rotate_left
      · (rintro W ⟨⟨e0, e1, e2, e3, e4, _⟩, ⟨f0, f1, f2, f3, f4, _⟩⟩; go_simp; (try with_reducible rfl))
      (try simp only [Act.put, List.getElem_toArray, List.getElem_cons_succ, List.getElem_cons_zero, List.setIfInBounds_toArray, List.set_cons_succ, List.set_cons_zero])
      refine wpAnyH_take (i := 3) (v := ?_) rfl (by kernel_rfl) (by kernel_rfl) (by kernel_rfl) (fun _ _ _ h => h) (Or.inl ⟨by kernel_rfl, ?_⟩) hHeld ?_
      rotate_left
      · (rintro W ⟨⟨e0, e1, e2, e3, e4, _⟩, ⟨f0, f1, f2, f3, f4, _⟩⟩; go_simp; (try with_reducible rfl))
      (try simp only [Act.put, List.getElem_toArray, List.getElem_cons_succ, List.getElem_cons_zero, List.setIfInBounds_toArray, List.set_cons_succ, List.set_cons_zero])
      refine wpAnyH_take (i := 4) (v := ?_) rfl (by kernel_rfl) (by kernel_rfl) (by kernel_rfl) (fun _ _ _ h => h) (Or.inl ⟨by kernel_rfl, ?_⟩) hHeld ?_
      rotate_left
      · (rintro W ⟨⟨e0, e1, e2, e3, e4, _⟩, ⟨f0, f1, f2, f3, f4, _⟩⟩; go_simp; (try with_reducible rfl))
      (try simp only [Act.put, List.getElem_toArray, List.getElem_cons_succ, List.getElem_cons_zero, List.setIfInBounds_toArray, List.set_cons_succ, List.set_cons_zero])
      refine wpAnyH_take (i := 5) (v := ?_) rfl (by kernel_rfl) (by kernel_rfl) (by kernel_rfl) (fun _ _ _ h => h) (Or.inl ⟨by kernel_rfl, ?_⟩) hHeld ?_
      rotate_left
      · (rintro W ⟨⟨e0, e1, e2, e3, e4, _⟩, ⟨f0, f1, f2, f3, f4, _⟩⟩; go_simp; (try with_reducible rfl))
      (try simp only [Act.put, List.getElem_toArray, List.getElem_cons_succ, List.getElem_cons_zero, List.setIfInBounds_toArray, List.set_cons_succ, List.set_cons_zero])
      refine wpAnyH_take (i := 6) (v := ?_) rfl (by kernel_rfl) (by kernel_rfl) (by kernel_rfl) (fun _ _ _ h => h) (Or.inl ⟨by kernel_rfl, ?_⟩) hHeld ?_
      rotate_left
      · (rintro W ⟨⟨e0, e1, e2, e3, e4, _⟩, ⟨f0, f1, f2, f3, f4, _⟩⟩; go_simp; (try with_reducible rfl))
      (try simp only [Act.put, List.getElem_toArray, List.getElem_cons_succ, List.getElem_cons_zero, List.setIfInBounds_toArray, List.set_cons_succ, List.set_cons_zero])
      refine wpAnyH_take (i := 7) (v := ?_) rfl (by kernel_rfl) (by kernel_rfl) (by kernel_rfl) (fun _ _ _ h => h) (Or.inl ⟨by kernel_rfl, ?_⟩) hHeld ?_
      rotate_left
      · (rintro W ⟨⟨e0, e1, e2, e3, e4, _⟩, ⟨f0, f1, f2, f3, f4, _⟩⟩; go_simp; (try with_reducible rfl))
      (try simp only [Act.put, List.getElem_toArray, List.getElem_cons_succ, List.getElem_cons_zero, List.setIfInBounds_toArray, List.set_cons_succ, List.set_cons_zero])
      refine wpAnyH_take (i := 8) (v := ?_) rfl (by kernel_rfl) (by kernel_rfl) (by kernel_rfl) (fun _ _ _ h => h) (Or.inl ⟨by kernel_rfl, ?_⟩) hHeld ?_
      rotate_left
      · (rintro W ⟨⟨e0, e1, e2, e3, e4, _⟩, ⟨f0, f1, f2, f3, f4, _⟩⟩; go_simp; (try with_reducible rfl))
      (try simp only [Act.put, List.getElem_toArray, List.getElem_cons_succ, List.getElem_cons_zero, List.setIfInBounds_toArray, List.set_cons_succ, List.set_cons_zero])
      refine wpAnyH_take (i := 9) (v := ?_) rfl (by kernel_rfl) (by kernel_rfl) (by kernel_rfl) (fun _ _ _ h => h) (Or.inl ⟨by kernel_rfl, ?_⟩) hHeld ?_
      rotate_left
      · (rintro W ⟨⟨e0, e1, e2, e3, e4, _⟩, ⟨f0, f1, f2, f3, f4, _⟩⟩; go_simp; (try with_reducible rfl))
      (try simp only [Act.put, List.getElem_toArray, List.getElem_cons_succ, List.getElem_cons_zero, List.setIfInBounds_toArray, List.set_cons_succ, List.set_cons_zero])
      refine wpAnyH_take (i := 10) (v := ?_) rfl (by kernel_rfl) (by kernel_rfl) (by kernel_rfl) (fun _ _ _ h => h) (Or.inl ⟨by kernel_rfl, ?_⟩) hHeld ?_
      rotate_left
      · (rintro W ⟨⟨e0, e1, e2, e3, e4, _⟩, ⟨f0, f1, f2, f3, f4, _⟩⟩; go_simp; (try with_reducible rfl))
      (try simp only [Act.put, List.getElem_toArray, List.getElem_cons_succ, List.getElem_cons_zero, List.setIfInBounds_toArray, List.set_cons_succ, List.set_cons_zero])
      refine wpAnyH_take (i := 11) (v := ?_) rfl (by kernel_rfl) (by kernel_rfl) (by kernel_rfl) (fun _ _ _ h => h) (Or.inl ⟨by kernel_rfl, ?_⟩) hHeld ?_
      rotate_left
      · (rintro W ⟨⟨e0, e1, e2, e3, e4, _⟩, ⟨f0, f1, f2, f3, f4, _⟩⟩; go_simp; (try with_reducible rfl))
      (try simp only [Act.put, List.getElem_toArray, List.getElem_cons_succ, List.getElem_cons_zero, List.setIfInBounds_toArray, List.set_cons_succ, List.set_cons_zero])
      refine wpAnyH_take (i := 12) (v := ?_) rfl (by kernel_rfl) (by kernel_rfl) (by kernel_rfl) (fun _ _ _ h => h) (Or.inl ⟨by kernel_rfl, ?_⟩) hHeld ?_
      rotate_left
      · (rintro W ⟨⟨e0, e1, e2, e3, e4, _⟩, ⟨f0, f1, f2, f3, f4, _⟩⟩; go_simp; (try with_reducible rfl))
      (try simp only [Act.put, List.getElem_toArray, List.getElem_cons_succ, List.getElem_cons_zero, List.setIfInBounds_toArray, List.set_cons_succ, List.set_cons_zero])
      refine wpAnyH_take (i := 13) (v := ?_) rfl (by kernel_rfl) (by kernel_rfl) (by kernel_rfl) (fun _ _ _ h => h) (Or.inl ⟨by kernel_rfl, ?_⟩) hHeld ?_
      rotate_left
      · (rintro W ⟨⟨e0, e1, e2, e3, e4, _⟩, ⟨f0, f1, f2, f3, f4, _⟩⟩; go_simp; (try with_reducible rfl))
      (try simp only [Act.put, List.getElem_toArray, List.getElem_cons_succ, List.getElem_cons_zero, List.setIfInBounds_toArray, List.set_cons_succ, List.set_cons_zero])
      refine wpAnyH_ready (rs := [14]) (by kernel_rfl) (by simp) ?_
      refine AllReadyH.cons rfl (fun K hK => ?_) AllReadyH.nil
      go_simp
      refine (keepS PkT.on hHeld (HU'.out _)).mono ?_
      rintro e w5 ⟨rfl, hk5⟩
      refine hK.out _ _ (hk5) (fun hHeld => ?_)
      clear hK K
      (try simp only [Act.put, List.getElem_toArray, List.getElem_cons_succ, List.getElem_cons_zero, List.setIfInBounds_toArray, List.set_cons_succ, List.set_cons_zero])
      refine wpAnyH_take (i := 15) (v := ?_) rfl (by kernel_rfl) (by kernel_rfl) (by kernel_rfl) (fun _ _ _ h => h) (Or.inl ⟨by kernel_rfl, ?_⟩) hHeld ?_
      rotate_left
      · (rintro W ⟨⟨e0, e1, e2, e3, e4, _⟩, ⟨f0, f1, f2, f3, f4, _⟩⟩; go_simp; (try with_reducible rfl))
      (try simp only [Act.put, List.getElem_toArray, List.getElem_cons_succ, List.getElem_cons_zero, List.setIfInBounds_toArray, List.set_cons_succ, List.set_cons_zero])
      refine wpAnyH_take (i := 16) (v := ?_) rfl (by kernel_rfl) (by kernel_rfl) (by kernel_rfl) (fun _ _ _ h => h) (Or.inl ⟨by kernel_rfl, ?_⟩) hHeld ?_
      rotate_left
      · (rintro W ⟨⟨e0, e1, e2, e3, e4, _⟩, ⟨f0, f1, f2, f3, f4, _⟩⟩; go_simp; (try with_reducible rfl))
      (try simp only [Act.put, List.getElem_toArray, List.getElem_cons_succ, List.getElem_cons_zero, List.setIfInBounds_toArray, List.set_cons_succ, List.set_cons_zero])
      refine wpAnyH_take (i := 17) (v := ?_) rfl (by kernel_rfl) (by kernel_rfl) (by kernel_rfl) (fun _ _ _ h => h) (Or.inl ⟨by kernel_rfl, ?_⟩) hHeld ?_
      rotate_left
      · (rintro W ⟨⟨e0, e1, e2, e3, e4, _⟩, ⟨f0, f1, f2, f3, f4, _⟩⟩; go_simp; (try with_reducible rfl))
      (try simp only [Act.put, List.getElem_toArray, List.getElem_cons_succ, List.getElem_cons_zero, List.setIfInBounds_toArray, List.set_cons_succ, List.set_cons_zero])
      refine wpAnyH_done (by kernel_rfl) ?_ _
      have hbF := below_then hb9.drew hHeld.1.2.2.2.2.2
      clear hHeld
      go_wp2_with fail
      go_roundw
      case rel => exact ⟨i, k + 1, _, hi, hklt, rfl, by go_num, rfl, HN.out, hbF⟩
      case measure => simp [intOf]; omega
    have q7 := less_names nn nm false (decide_eq_false hl2)
    obtain ⟨r, hr⟩ : ∃ r, V4.cmp y z = r := ⟨_, rfl⟩
    have HCm := Lib.hid (fun W => rcmpL_as y z r hr W z3 y3)
    have HN0 : Hid (UpAt ps qs (i + 1) (k + 1) (A.data.toList ++ chgL ⟨nm, y⟩ ⟨nn, z⟩)) := by
      have h := up_chg HUp.out hilt hklt (by rw [hnx, hnz]; exact hl1) (by rw [hnx, hnz]; exact hl2)
      rw [hye, hze] at h
      exact h
    have HR := Lib.hid hr
    have HTx := Lib.hid hT
    have HUx := Lib.hid hU
    clear hl1 hl2 hye hze hr hT hU hnx hnz
    go_wp2_with fail
    refine wp_region_held_drew (S := (fun W => PkT bx (ox + i * 5) nm y bz (oz + k * 5) nn z wr.drew W)) (by kernel_rfl) (hss) (fun hHeld => ?_)
    refine wpAnyH_take (i := 0) (v := ?_) rfl (by kernel_rfl) (by kernel_rfl) (by kernel_rfl) (fun _ _ _ h => h) (Or.inl ⟨by kernel_rfl, ?_⟩) hHeld ?_
    rotate_left
    · (rintro W ⟨⟨e0, e1, e2, e3, e4, _⟩, ⟨f0, f1, f2, f3, f4, _⟩⟩; go_simp; (try with_reducible rfl))
    (try simp only [Act.put, List.getElem_toArray, List.getElem_cons_zero, List.setIfInBounds_toArray, List.set_cons_succ, List.set_cons_zero])
    refine wpAnyH_take (i := 1) (v := ?_) rfl (by kernel_rfl) (by kernel_rfl) (by kernel_rfl) (fun _ _ _ h => h) (Or.inl ⟨by kernel_rfl, ?_⟩) hHeld ?_
    rotate_left
    · (rintro W ⟨⟨e0, e1, e2, e3, e4, _⟩, ⟨f0, f1, f2, f3, f4, _⟩⟩; go_simp; (try with_reducible rfl))
    (try simp only [Act.put, List.getElem_toArray, List.getElem_cons_succ, List.getElem_cons_zero, List.setIfInBounds_toArray, List.set_cons_succ, List.set_cons_zero])
    refine wpAnyH_take (i := 2) (v := ?_) rfl (by kernel_rfl) (by kernel_rfl) (by kernel_rfl) (fun _ _ _ h => h) (Or.inl ⟨by kernel_rfl, ?_⟩) hHeld ?_
    rotate_left
    · (rintro W ⟨⟨e0, e1, e2, e3, e4, _⟩, ⟨f0, f1, f2, f3, f4, _⟩⟩; go_simp; (try with_reducible rfl))
    (try simp only [Act.put, List.getElem_toArray, List.getElem_cons_succ, List.getElem_cons_zero, List.setIfInBounds_toArray, List.set_cons_succ, List.set_cons_zero])
    refine wpAnyH_take (i := 3) (v := ?_) rfl (by kernel_rfl) (by kernel_rfl) (by kernel_rfl) (fun _ _ _ h => h) (Or.inl ⟨by kernel_rfl, ?_⟩) hHeld ?_
    rotate_left
    · (rintro W ⟨⟨e0, e1, e2, e3, e4, _⟩, ⟨f0, f1, f2, f3, f4, _⟩⟩; go_simp; (try with_reducible rfl))
    (try simp only [Act.put, List.getElem_toArray, List.getElem_cons_succ, List.getElem_cons_zero, List.setIfInBounds_toArray, List.set_cons_succ, List.set_cons_zero])
    refine wpAnyH_take (i := 4) (v := ?_) rfl (by kernel_rfl) (by kernel_rfl) (by kernel_rfl) (fun _ _ _ h => h) (Or.inl ⟨by kernel_rfl, ?_⟩) hHeld ?_
    rotate_left
    · (rintro W ⟨⟨e0, e1, e2, e3, e4, _⟩, ⟨f0, f1, f2, f3, f4, _⟩⟩; go_simp; (try with_reducible rfl))
    (try simp only [Act.put, List.getElem_toArray, List.getElem_cons_succ, List.getElem_cons_zero, List.setIfInBounds_toArray, List.set_cons_succ, List.set_cons_zero])
    refine wpAnyH_take (i := 5) (v := ?_) rfl (by kernel_rfl) (by kernel_rfl) (by kernel_rfl) (fun _ _ _ h => h) (Or.inl ⟨by kernel_rfl, ?_⟩) hHeld ?_
    rotate_left
    · (rintro W ⟨⟨e0, e1, e2, e3, e4, _⟩, ⟨f0, f1, f2, f3, f4, _⟩⟩; go_simp; (try with_reducible rfl))
    (try simp only [Act.put, List.getElem_toArray, List.getElem_cons_succ, List.getElem_cons_zero, List.setIfInBounds_toArray, List.set_cons_succ, List.set_cons_zero])
    refine wpAnyH_take (i := 6) (v := ?_) rfl (by kernel_rfl) (by kernel_rfl) (by kernel_rfl) (fun _ _ _ h => h) (Or.inl ⟨by kernel_rfl, ?_⟩) hHeld ?_
    rotate_left
    · (rintro W ⟨⟨e0, e1, e2, e3, e4, _⟩, ⟨f0, f1, f2, f3, f4, _⟩⟩; go_simp; (try with_reducible rfl))
    (try simp only [Act.put, List.getElem_toArray, List.getElem_cons_succ, List.getElem_cons_zero, List.setIfInBounds_toArray, List.set_cons_succ, List.set_cons_zero])
    refine wpAnyH_take (i := 7) (v := ?_) rfl (by kernel_rfl) (by kernel_rfl) (by kernel_rfl) (fun _ _ _ h => h) (Or.inl ⟨by kernel_rfl, ?_⟩) hHeld ?_
    rotate_left
    · (rintro W ⟨⟨e0, e1, e2, e3, e4, _⟩, ⟨f0, f1, f2, f3, f4, _⟩⟩; go_simp; (try with_reducible rfl))
    (try simp only [Act.put, List.getElem_toArray, List.getElem_cons_succ, List.getElem_cons_zero, List.setIfInBounds_toArray, List.set_cons_succ, List.set_cons_zero])
    refine wpAnyH_take (i := 8) (v := ?_) rfl (by kernel_rfl) (by kernel_rfl) (by kernel_rfl) (fun _ _ _ h => h) (Or.inl ⟨by kernel_rfl, ?_⟩) hHeld ?_
    rotate_left
    · (rintro W ⟨⟨e0, e1, e2, e3, e4, _⟩, ⟨f0, f1, f2, f3, f4, _⟩⟩; go_simp; (try with_reducible rfl))
    (try simp only [Act.put, List.getElem_toArray, List.getElem_cons_succ, List.getElem_cons_zero, List.setIfInBounds_toArray, List.set_cons_succ, List.set_cons_zero])
    refine wpAnyH_take (i := 9) (v := ?_) rfl (by kernel_rfl) (by kernel_rfl) (by kernel_rfl) (fun _ _ _ h => h) (Or.inl ⟨by kernel_rfl, ?_⟩) hHeld ?_
    rotate_left
    · (rintro W ⟨⟨e0, e1, e2, e3, e4, _⟩, ⟨f0, f1, f2, f3, f4, _⟩⟩; go_simp; (try with_reducible rfl))
    (try simp only [Act.put, List.getElem_toArray, List.getElem_cons_succ, List.getElem_cons_zero, List.setIfInBounds_toArray, List.set_cons_succ, List.set_cons_zero])
    refine wpAnyH_take (i := 10) (v := ?_) rfl (by kernel_rfl) (by kernel_rfl) (by kernel_rfl) (fun _ _ _ h => h) (Or.inl ⟨by kernel_rfl, ?_⟩) hHeld ?_
    rotate_left
    · (rintro W ⟨⟨e0, e1, e2, e3, e4, _⟩, ⟨f0, f1, f2, f3, f4, _⟩⟩; go_simp; (try with_reducible rfl))
    (try simp only [Act.put, List.getElem_toArray, List.getElem_cons_succ, List.getElem_cons_zero, List.setIfInBounds_toArray, List.set_cons_succ, List.set_cons_zero])
    refine wpAnyH_take (i := 11) (v := ?_) rfl (by kernel_rfl) (by kernel_rfl) (by kernel_rfl) (fun _ _ _ h => h) (Or.inl ⟨by kernel_rfl, ?_⟩) hHeld ?_
    rotate_left
    · (rintro W ⟨⟨e0, e1, e2, e3, e4, _⟩, ⟨f0, f1, f2, f3, f4, _⟩⟩; go_simp; (try with_reducible rfl))
    (try simp only [Act.put, List.getElem_toArray, List.getElem_cons_succ, List.getElem_cons_zero, List.setIfInBounds_toArray, List.set_cons_succ, List.set_cons_zero])
    refine wpAnyH_take (i := 12) (v := ?_) rfl (by kernel_rfl) (by kernel_rfl) (by kernel_rfl) (fun _ _ _ h => h) (Or.inl ⟨by kernel_rfl, ?_⟩) hHeld ?_
    rotate_left
    · (rintro W ⟨⟨e0, e1, e2, e3, e4, _⟩, ⟨f0, f1, f2, f3, f4, _⟩⟩; go_simp; (try with_reducible rfl))
    (try simp only [Act.put, List.getElem_toArray, List.getElem_cons_succ, List.getElem_cons_zero, List.setIfInBounds_toArray, List.set_cons_succ, List.set_cons_zero])
    refine wpAnyH_take (i := 13) (v := ?_) rfl (by kernel_rfl) (by kernel_rfl) (by kernel_rfl) (fun _ _ _ h => h) (Or.inl ⟨by kernel_rfl, ?_⟩) hHeld ?_
    rotate_left
    · (rintro W ⟨⟨e0, e1, e2, e3, e4, _⟩, ⟨f0, f1, f2, f3, f4, _⟩⟩; go_simp; (try with_reducible rfl))
    (try simp only [Act.put, List.getElem_toArray, List.getElem_cons_succ, List.getElem_cons_zero, List.setIfInBounds_toArray, List.set_cons_succ, List.set_cons_zero])
    refine wpAnyH_take (i := 14) (v := ?_) rfl (by kernel_rfl) (by kernel_rfl) (by kernel_rfl) (fun _ _ _ h => h) (Or.inl ⟨by kernel_rfl, ?_⟩) hHeld ?_
    rotate_left
    · (rintro W ⟨⟨e0, e1, e2, e3, e4, _⟩, ⟨f0, f1, f2, f3, f4, _⟩⟩; go_simp; (try with_reducible rfl))
    (try simp only [Act.put, List.getElem_toArray, List.getElem_cons_succ, List.getElem_cons_zero, List.setIfInBounds_toArray, List.set_cons_succ, List.set_cons_zero])
    refine wpAnyH_take (i := 15) (v := ?_) rfl (by kernel_rfl) (by kernel_rfl) (by kernel_rfl) (fun _ _ _ h => h) (Or.inl ⟨by kernel_rfl, ?_⟩) hHeld ?_
    rotate_left
    · (rintro W ⟨⟨e0, e1, e2, e3, e4, _⟩, ⟨f0, f1, f2, f3, f4, _⟩⟩; go_simp; (try with_reducible rfl))
    (try simp only [Act.put, List.getElem_toArray, List.getElem_cons_succ, List.getElem_cons_zero, List.setIfInBounds_toArray, List.set_cons_succ, List.set_cons_zero])
    refine wpAnyH_take (i := 16) (v := ?_) rfl (by kernel_rfl) (by kernel_rfl) (by kernel_rfl) (fun _ _ _ h => h) (Or.inl ⟨by kernel_rfl, ?_⟩) hHeld ?_
    rotate_left
    · (rintro W ⟨⟨e0, e1, e2, e3, e4, _⟩, ⟨f0, f1, f2, f3, f4, _⟩⟩; go_simp; (try with_reducible rfl))
    (try simp only [Act.put, List.getElem_toArray, List.getElem_cons_succ, List.getElem_cons_zero, List.setIfInBounds_toArray, List.set_cons_succ, List.set_cons_zero])
    refine wpAnyH_take (i := 17) (v := ?_) rfl (by kernel_rfl) (by kernel_rfl) (by kernel_rfl) (fun _ _ _ h => h) (Or.inl ⟨by kernel_rfl, ?_⟩) hHeld ?_
    rotate_left
    · (rintro W ⟨⟨e0, e1, e2, e3, e4, _⟩, ⟨f0, f1, f2, f3, f4, _⟩⟩; go_simp; (try with_reducible rfl))
    (try simp only [Act.put, List.getElem_toArray, List.getElem_cons_succ, List.getElem_cons_zero, List.setIfInBounds_toArray, List.set_cons_succ, List.set_cons_zero])
    refine wpAnyH_take (i := 18) (v := ?_) rfl (by kernel_rfl) (by kernel_rfl) (by kernel_rfl) (fun _ _ _ h => h) (Or.inl ⟨by kernel_rfl, ?_⟩) hHeld ?_
    rotate_left
    · (rintro W ⟨⟨e0, e1, e2, e3, e4, _⟩, ⟨f0, f1, f2, f3, f4, _⟩⟩; go_simp; (try with_reducible rfl))
    (try simp only [Act.put, List.getElem_toArray, List.getElem_cons_succ, List.getElem_cons_zero, List.setIfInBounds_toArray, List.set_cons_succ, List.set_cons_zero])
    refine wpAnyH_take (i := 19) (v := ?_) rfl (by kernel_rfl) (by kernel_rfl) (by kernel_rfl) (fun _ _ _ h => h) (Or.inl ⟨by kernel_rfl, ?_⟩) hHeld ?_
    rotate_left
    · (rintro W ⟨⟨e0, e1, e2, e3, e4, _⟩, ⟨f0, f1, f2, f3, f4, _⟩⟩; go_simp; (try with_reducible rfl))
    (try simp only [Act.put, List.getElem_toArray, List.getElem_cons_succ, List.getElem_cons_zero, List.setIfInBounds_toArray, List.set_cons_succ, List.set_cons_zero])
    refine wpAnyH_take (i := 20) (v := ?_) rfl (by kernel_rfl) (by kernel_rfl) (by kernel_rfl) (fun _ _ _ h => h) (Or.inl ⟨by kernel_rfl, ?_⟩) hHeld ?_
    rotate_left
    · (rintro W ⟨⟨e0, e1, e2, e3, e4, _⟩, ⟨f0, f1, f2, f3, f4, _⟩⟩; go_simp; (try with_reducible rfl))
    (try simp only [Act.put, List.getElem_toArray, List.getElem_cons_succ, List.getElem_cons_zero, List.setIfInBounds_toArray, List.set_cons_succ, List.set_cons_zero])
    refine wpAnyH_take (i := 21) (v := ?_) rfl (by kernel_rfl) (by kernel_rfl) (by kernel_rfl) (fun _ _ _ h => h) (Or.inl ⟨by kernel_rfl, ?_⟩) hHeld ?_
    rotate_left
    · (rintro W ⟨⟨e0, e1, e2, e3, e4, _⟩, ⟨f0, f1, f2, f3, f4, _⟩⟩; go_simp; (try with_reducible rfl))
    (try simp only [Act.put, List.getElem_toArray, List.getElem_cons_succ, List.getElem_cons_zero, List.setIfInBounds_toArray, List.set_cons_succ, List.set_cons_zero])
    refine wpAnyH_take (i := 22) (v := ?_) rfl (by kernel_rfl) (by kernel_rfl) (by kernel_rfl) (fun _ _ _ h => h) (Or.inl ⟨by kernel_rfl, ?_⟩) hHeld ?_
    rotate_left
    · (rintro W ⟨⟨e0, e1, e2, e3, e4, _⟩, ⟨f0, f1, f2, f3, f4, _⟩⟩; go_simp; (try with_reducible rfl))
    (try simp only [Act.put, List.getElem_toArray, List.getElem_cons_succ, List.getElem_cons_zero, List.setIfInBounds_toArray, List.set_cons_succ, List.set_cons_zero])
    refine wpAnyH_done (by kernel_rfl) ?_ _
    have hb6 := below_then HD.out hHeld.1.2.2.2.2.2
    have hst6 := PkT.drewn hHeld
    clear hHeld hss
    go_wp2_with fail
    refine wp_region_held_drew (S := (fun W => PkT bx (ox + i * 5) nm y bz (oz + k * 5) nn z _ W)) (by kernel_rfl) (hst6) (fun hHeld => ?_)
    refine wpAnyH_take (i := 0) (v := ?_) rfl (by kernel_rfl) (by kernel_rfl) (by kernel_rfl) (fun _ _ _ h => h) (Or.inl ⟨by kernel_rfl, ?_⟩) hHeld ?_
    rotate_left
    · (rintro W ⟨⟨e0, e1, e2, e3, e4, _⟩, ⟨f0, f1, f2, f3, f4, _⟩⟩; go_simp; (try with_reducible rfl))
    (try simp only [Act.put, List.getElem_toArray, List.getElem_cons_zero, List.setIfInBounds_toArray, List.set_cons_succ, List.set_cons_zero])
    refine wpAnyH_take (i := 1) (v := ?_) rfl (by kernel_rfl) (by kernel_rfl) (by kernel_rfl) (fun _ _ _ h => h) (Or.inl ⟨by kernel_rfl, ?_⟩) hHeld ?_
    rotate_left
    · (rintro W ⟨⟨e0, e1, e2, e3, e4, _⟩, ⟨f0, f1, f2, f3, f4, _⟩⟩; go_simp; (try with_reducible rfl))
    (try simp only [Act.put, List.getElem_toArray, List.getElem_cons_succ, List.getElem_cons_zero, List.setIfInBounds_toArray, List.set_cons_succ, List.set_cons_zero])
    refine wpAnyH_take (i := 2) (v := ?_) rfl (by kernel_rfl) (by kernel_rfl) (by kernel_rfl) (fun _ _ _ h => h) (Or.inl ⟨by kernel_rfl, ?_⟩) hHeld ?_
    rotate_left
    · (rintro W ⟨⟨e0, e1, e2, e3, e4, _⟩, ⟨f0, f1, f2, f3, f4, _⟩⟩; go_simp; (try with_reducible rfl))
    (try simp only [Act.put, List.getElem_toArray, List.getElem_cons_succ, List.getElem_cons_zero, List.setIfInBounds_toArray, List.set_cons_succ, List.set_cons_zero])
    refine wpAnyH_take (i := 3) (v := ?_) rfl (by kernel_rfl) (by kernel_rfl) (by kernel_rfl) (fun _ _ _ h => h) (Or.inl ⟨by kernel_rfl, ?_⟩) hHeld ?_
    rotate_left
    · (rintro W ⟨⟨e0, e1, e2, e3, e4, _⟩, ⟨f0, f1, f2, f3, f4, _⟩⟩; go_simp; (try with_reducible rfl))
    (try simp only [Act.put, List.getElem_toArray, List.getElem_cons_succ, List.getElem_cons_zero, List.setIfInBounds_toArray, List.set_cons_succ, List.set_cons_zero])
    refine wpAnyH_take (i := 4) (v := ?_) rfl (by kernel_rfl) (by kernel_rfl) (by kernel_rfl) (fun _ _ _ h => h) (Or.inl ⟨by kernel_rfl, ?_⟩) hHeld ?_
    rotate_left
    · (rintro W ⟨⟨e0, e1, e2, e3, e4, _⟩, ⟨f0, f1, f2, f3, f4, _⟩⟩; go_simp; (try with_reducible rfl))
    (try simp only [Act.put, List.getElem_toArray, List.getElem_cons_succ, List.getElem_cons_zero, List.setIfInBounds_toArray, List.set_cons_succ, List.set_cons_zero])
    refine wpAnyH_take (i := 5) (v := ?_) rfl (by kernel_rfl) (by kernel_rfl) (by kernel_rfl) (fun _ _ _ h => h) (Or.inl ⟨by kernel_rfl, ?_⟩) hHeld ?_
    rotate_left
    · (rintro W ⟨⟨e0, e1, e2, e3, e4, _⟩, ⟨f0, f1, f2, f3, f4, _⟩⟩; go_simp; (try with_reducible rfl))
    (try simp only [Act.put, List.getElem_toArray, List.getElem_cons_succ, List.getElem_cons_zero, List.setIfInBounds_toArray, List.set_cons_succ, List.set_cons_zero])
    refine wpAnyH_take (i := 6) (v := ?_) rfl (by kernel_rfl) (by kernel_rfl) (by kernel_rfl) (fun _ _ _ h => h) (Or.inl ⟨by kernel_rfl, ?_⟩) hHeld ?_
    rotate_left
    · (rintro W ⟨⟨e0, e1, e2, e3, e4, _⟩, ⟨f0, f1, f2, f3, f4, _⟩⟩; go_simp; (try with_reducible rfl))
    (try simp only [Act.put, List.getElem_toArray, List.getElem_cons_succ, List.getElem_cons_zero, List.setIfInBounds_toArray, List.set_cons_succ, List.set_cons_zero])
    refine wpAnyH_take (i := 7) (v := ?_) rfl (by kernel_rfl) (by kernel_rfl) (by kernel_rfl) (fun _ _ _ h => h) (Or.inl ⟨by kernel_rfl, ?_⟩) hHeld ?_
    rotate_left
    · (rintro W ⟨⟨e0, e1, e2, e3, e4, _⟩, ⟨f0, f1, f2, f3, f4, _⟩⟩; go_simp; (try with_reducible rfl))
    (try simp only [Act.put, List.getElem_toArray, List.getElem_cons_succ, List.getElem_cons_zero, List.setIfInBounds_toArray, List.set_cons_succ, List.set_cons_zero])
    refine wpAnyH_take (i := 8) (v := ?_) rfl (by kernel_rfl) (by kernel_rfl) (by kernel_rfl) (fun _ _ _ h => h) (Or.inl ⟨by kernel_rfl, ?_⟩) hHeld ?_
    rotate_left
    · (rintro W ⟨⟨e0, e1, e2, e3, e4, _⟩, ⟨f0, f1, f2, f3, f4, _⟩⟩; go_simp; (try with_reducible rfl))
    (try simp only [Act.put, List.getElem_toArray, List.getElem_cons_succ, List.getElem_cons_zero, List.setIfInBounds_toArray, List.set_cons_succ, List.set_cons_zero])
    refine wpAnyH_take (i := 9) (v := ?_) rfl (by kernel_rfl) (by kernel_rfl) (by kernel_rfl) (fun _ _ _ h => h) (Or.inl ⟨by kernel_rfl, ?_⟩) hHeld ?_
    rotate_left
    · (rintro W ⟨⟨e0, e1, e2, e3, e4, _⟩, ⟨f0, f1, f2, f3, f4, _⟩⟩; go_simp; (try with_reducible rfl))
    (try simp only [Act.put, List.getElem_toArray, List.getElem_cons_succ, List.getElem_cons_zero, List.setIfInBounds_toArray, List.set_cons_succ, List.set_cons_zero])
    refine wpAnyH_take (i := 10) (v := ?_) rfl (by kernel_rfl) (by kernel_rfl) (by kernel_rfl) (fun _ _ _ h => h) (Or.inl ⟨by kernel_rfl, ?_⟩) hHeld ?_
    rotate_left
    · (rintro W ⟨⟨e0, e1, e2, e3, e4, _⟩, ⟨f0, f1, f2, f3, f4, _⟩⟩; go_simp; (try with_reducible rfl))
    (try simp only [Act.put, List.getElem_toArray, List.getElem_cons_succ, List.getElem_cons_zero, List.setIfInBounds_toArray, List.set_cons_succ, List.set_cons_zero])
    refine wpAnyH_take (i := 11) (v := ?_) rfl (by kernel_rfl) (by kernel_rfl) (by kernel_rfl) (fun _ _ _ h => h) (Or.inl ⟨by kernel_rfl, ?_⟩) hHeld ?_
    rotate_left
    · (rintro W ⟨⟨e0, e1, e2, e3, e4, _⟩, ⟨f0, f1, f2, f3, f4, _⟩⟩; go_simp; (try with_reducible rfl))
    (try simp only [Act.put, List.getElem_toArray, List.getElem_cons_succ, List.getElem_cons_zero, List.setIfInBounds_toArray, List.set_cons_succ, List.set_cons_zero])
    refine wpAnyH_take (i := 12) (v := ?_) rfl (by kernel_rfl) (by kernel_rfl) (by kernel_rfl) (fun _ _ _ h => h) (Or.inl ⟨by kernel_rfl, ?_⟩) hHeld ?_
    rotate_left
    · (rintro W ⟨⟨e0, e1, e2, e3, e4, _⟩, ⟨f0, f1, f2, f3, f4, _⟩⟩; go_simp; (try with_reducible rfl))
    (try simp only [Act.put, List.getElem_toArray, List.getElem_cons_succ, List.getElem_cons_zero, List.setIfInBounds_toArray, List.set_cons_succ, List.set_cons_zero])
    refine wpAnyH_take (i := 13) (v := ?_) rfl (by kernel_rfl) (by kernel_rfl) (by kernel_rfl) (fun _ _ _ h => h) (Or.inl ⟨by kernel_rfl, ?_⟩) hHeld ?_
    rotate_left
    · (rintro W ⟨⟨e0, e1, e2, e3, e4, _⟩, ⟨f0, f1, f2, f3, f4, _⟩⟩; go_simp; (try with_reducible rfl))
    (try simp only [Act.put, List.getElem_toArray, List.getElem_cons_succ, List.getElem_cons_zero, List.setIfInBounds_toArray, List.set_cons_succ, List.set_cons_zero])
    refine wpAnyH_take (i := 14) (v := ?_) rfl (by kernel_rfl) (by kernel_rfl) (by kernel_rfl) (fun _ _ _ h => h) (Or.inl ⟨by kernel_rfl, ?_⟩) hHeld ?_
    rotate_left
    · (rintro W ⟨⟨e0, e1, e2, e3, e4, _⟩, ⟨f0, f1, f2, f3, f4, _⟩⟩; go_simp; (try with_reducible rfl))
    (try simp only [Act.put, List.getElem_toArray, List.getElem_cons_succ, List.getElem_cons_zero, List.setIfInBounds_toArray, List.set_cons_succ, List.set_cons_zero])
    refine wpAnyH_take (i := 15) (v := ?_) rfl (by kernel_rfl) (by kernel_rfl) (by kernel_rfl) (fun _ _ _ h => h) (Or.inl ⟨by kernel_rfl, ?_⟩) hHeld ?_
    rotate_left
    · (rintro W ⟨⟨e0, e1, e2, e3, e4, _⟩, ⟨f0, f1, f2, f3, f4, _⟩⟩; go_simp; (try with_reducible rfl))
    (try simp only [Act.put, List.getElem_toArray, List.getElem_cons_succ, List.getElem_cons_zero, List.setIfInBounds_toArray, List.set_cons_succ, List.set_cons_zero])
    refine wpAnyH_take (i := 16) (v := ?_) rfl (by kernel_rfl) (by kernel_rfl) (by kernel_rfl) (fun _ _ _ h => h) (Or.inl ⟨by kernel_rfl, ?_⟩) hHeld ?_
    rotate_left
    · (rintro W ⟨⟨e0, e1, e2, e3, e4, _⟩, ⟨f0, f1, f2, f3, f4, _⟩⟩; go_simp; (try with_reducible rfl))
    (try simp only [Act.put, List.getElem_toArray, List.getElem_cons_succ, List.getElem_cons_zero, List.setIfInBounds_toArray, List.set_cons_succ, List.set_cons_zero])
    refine wpAnyH_done (by kernel_rfl) ?_ _
    have hb9 := below_then hb6.drew hHeld.1.2.2.2.2.2
    have hst9 := PkT.drewn hHeld
    clear hHeld hst6
    go_wp2_with fail
    refine wp_region_held_drew (S := (fun W => PkT bx (ox + i * 5) nm y bz (oz + k * 5) nn z _ W)) (by kernel_rfl) (hst9) (fun hHeld => ?_)
    refine wpAnyH_take (i := 0) (v := ?_) rfl (by kernel_rfl) (by kernel_rfl) (by kernel_rfl) (fun _ _ _ h => h) (Or.inl ⟨by kernel_rfl, ?_⟩) hHeld ?_
    rotate_left
    · (rintro W ⟨⟨e0, e1, e2, e3, e4, _⟩, ⟨f0, f1, f2, f3, f4, _⟩⟩; go_simp; (try with_reducible rfl))
    (try simp only [Act.put, List.getElem_toArray, List.getElem_cons_zero, List.setIfInBounds_toArray, List.set_cons_succ, List.set_cons_zero])
    refine wpAnyH_take (i := 1) (v := ?_) rfl (by kernel_rfl) (by kernel_rfl) (by kernel_rfl) (fun _ _ _ h => h) (Or.inl ⟨by kernel_rfl, ?_⟩) hHeld ?_
    rotate_left
    · (rintro W ⟨⟨e0, e1, e2, e3, e4, _⟩, ⟨f0, f1, f2, f3, f4, _⟩⟩; go_simp; (try with_reducible rfl))
    (try simp only [Act.put, List.getElem_toArray, List.getElem_cons_succ, List.getElem_cons_zero, List.setIfInBounds_toArray, List.set_cons_succ, List.set_cons_zero])
    refine wpAnyH_take (i := 2) (v := ?_) rfl (by kernel_rfl) (by kernel_rfl) (by kernel_rfl) (fun _ _ _ h => h) (Or.inl ⟨by kernel_rfl, ?_⟩) hHeld ?_
    rotate_left
    · (rintro W ⟨⟨e0, e1, e2, e3, e4, _⟩, ⟨f0, f1, f2, f3, f4, _⟩⟩; go_simp; (try with_reducible rfl))
    (try simp only [Act.put, List.getElem_toArray, List.getElem_cons_succ, List.getElem_cons_zero, List.setIfInBounds_toArray, List.set_cons_succ, List.set_cons_zero])
    refine wpAnyH_take (i := 3) (v := ?_) rfl (by kernel_rfl) (by kernel_rfl) (by kernel_rfl) (fun _ _ _ h => h) (Or.inl ⟨by kernel_rfl, ?_⟩) hHeld ?_
    rotate_left
    · (rintro W ⟨⟨e0, e1, e2, e3, e4, _⟩, ⟨f0, f1, f2, f3, f4, _⟩⟩; go_simp; (try with_reducible rfl))
    (try simp only [Act.put, List.getElem_toArray, List.getElem_cons_succ, List.getElem_cons_zero, List.setIfInBounds_toArray, List.set_cons_succ, List.set_cons_zero])
    refine wpAnyH_take (i := 4) (v := ?_) rfl (by kernel_rfl) (by kernel_rfl) (by kernel_rfl) (fun _ _ _ h => h) (Or.inl ⟨by kernel_rfl, ?_⟩) hHeld ?_
    rotate_left
    · (rintro W ⟨⟨e0, e1, e2, e3, e4, _⟩, ⟨f0, f1, f2, f3, f4, _⟩⟩; go_simp; (try with_reducible rfl))
    (try simp only [Act.put, List.getElem_toArray, List.getElem_cons_succ, List.getElem_cons_zero, List.setIfInBounds_toArray, List.set_cons_succ, List.set_cons_zero])
    refine wpAnyH_take (i := 5) (v := ?_) rfl (by kernel_rfl) (by kernel_rfl) (by kernel_rfl) (fun _ _ _ h => h) (Or.inl ⟨by kernel_rfl, ?_⟩) hHeld ?_
    rotate_left
    · (rintro W ⟨⟨e0, e1, e2, e3, e4, _⟩, ⟨f0, f1, f2, f3, f4, _⟩⟩; go_simp; (try with_reducible rfl))
    (try simp only [Act.put, List.getElem_toArray, List.getElem_cons_succ, List.getElem_cons_zero, List.setIfInBounds_toArray, List.set_cons_succ, List.set_cons_zero])
    refine wpAnyH_take (i := 6) (v := ?_) rfl (by kernel_rfl) (by kernel_rfl) (by kernel_rfl) (fun _ _ _ h => h) (Or.inl ⟨by kernel_rfl, ?_⟩) hHeld ?_
    rotate_left
    · (rintro W ⟨⟨e0, e1, e2, e3, e4, _⟩, ⟨f0, f1, f2, f3, f4, _⟩⟩; go_simp; (try with_reducible rfl))
    (try simp only [Act.put, List.getElem_toArray, List.getElem_cons_succ, List.getElem_cons_zero, List.setIfInBounds_toArray, List.set_cons_succ, List.set_cons_zero])
    refine wpAnyH_take (i := 7) (v := ?_) rfl (by kernel_rfl) (by kernel_rfl) (by kernel_rfl) (fun _ _ _ h => h) (Or.inl ⟨by kernel_rfl, ?_⟩) hHeld ?_
    rotate_left
    · (rintro W ⟨⟨e0, e1, e2, e3, e4, _⟩, ⟨f0, f1, f2, f3, f4, _⟩⟩; go_simp; (try with_reducible rfl))
    (try simp only [Act.put, List.getElem_toArray, List.getElem_cons_succ, List.getElem_cons_zero, List.setIfInBounds_toArray, List.set_cons_succ, List.set_cons_zero])
    refine wpAnyH_take (i := 8) (v := ?_) rfl (by kernel_rfl) (by kernel_rfl) (by kernel_rfl) (fun _ _ _ h => h) (Or.inl ⟨by kernel_rfl, ?_⟩) hHeld ?_
    rotate_left
    · (rintro W ⟨⟨e0, e1, e2, e3, e4, _⟩, ⟨f0, f1, f2, f3, f4, _⟩⟩; go_simp; (try with_reducible rfl))
    (try simp only [Act.put, List.getElem_toArray, List.getElem_cons_succ, List.getElem_cons_zero, List.setIfInBounds_toArray, List.set_cons_succ, List.set_cons_zero])
    refine wpAnyH_take (i := 9) (v := ?_) rfl (by kernel_rfl) (by kernel_rfl) (by kernel_rfl) (fun _ _ _ h => h) (Or.inl ⟨by kernel_rfl, ?_⟩) hHeld ?_
    rotate_left
    · (rintro W ⟨⟨e0, e1, e2, e3, e4, _⟩, ⟨f0, f1, f2, f3, f4, _⟩⟩; go_simp; (try with_reducible rfl))
    (try simp only [Act.put, List.getElem_toArray, List.getElem_cons_succ, List.getElem_cons_zero, List.setIfInBounds_toArray, List.set_cons_succ, List.set_cons_zero])
    refine wpAnyH_ready (rs := [10]) (by kernel_rfl) (by simp) ?_
    refine AllReadyH.cons rfl (fun K hK => ?_) AllReadyH.nil
    go_simp
    refine (keepS PkT.on hHeld (HCm.out _)).mono ?_
    rintro e w5 ⟨rfl, hk5⟩
    refine hK.out _ _ (hk5) (fun hHeld => ?_)
    clear hK K
    (try simp only [Act.put, List.getElem_toArray, List.getElem_cons_succ, List.getElem_cons_zero, List.setIfInBounds_toArray, List.set_cons_succ, List.set_cons_zero])
    refine wpAnyH_take (i := 11) (v := ?_) rfl (by kernel_rfl) (by kernel_rfl) (by kernel_rfl) (fun _ _ _ h => h) (Or.inl ⟨by kernel_rfl, ?_⟩) hHeld ?_
    rotate_left
    · (rintro W ⟨⟨e0, e1, e2, e3, e4, _⟩, ⟨f0, f1, f2, f3, f4, _⟩⟩; go_simp; (try with_reducible rfl))
    (try simp only [Act.put, List.getElem_toArray, List.getElem_cons_succ, List.getElem_cons_zero, List.setIfInBounds_toArray, List.set_cons_succ, List.set_cons_zero])
    refine wpAnyH_done (by kernel_rfl) ?_ _
    have hbc := below_then hb9.drew hHeld.1.2.2.2.2.2
    have hstc := PkT.drewn hHeld
    clear hHeld hst9
    by_cases h0 : r = 0
    · have q8 : (r != 0) = false := by rw [h0]; rfl
      have HN : Hid (UpAt ps qs (i + 1) (k + 1) A.data.toList) := by
        have h := HN0.out
        have e : chgL ⟨nm, y⟩ ⟨nn, z⟩ = [] := by
          unfold chgL
          show (if V4.cmp y z < 0 then _ else if 0 < V4.cmp y z then _ else _) = _
          rw [HR.out, h0]; rfl
        rw [e, List.append_nil] at h
        exact h
      clear h0
      go_wp2_with fail
      go_roundw
      case rel => exact ⟨i + 1, k + 1, _, hilt, hklt, by go_num, by go_num, rfl, HN.out, hbc⟩
      case measure => simp [intOf]; omega
    have q8 : (r != 0) = true := by simpa using h0
    by_cases hpos : 0 < r
    · have q9 : decide (0 < r) = true := decide_eq_true hpos
      obtain ⟨A1, hA1⟩ : ∃ c, A ++ ⟨#[118, 32]⟩ = c := ⟨_, rfl⟩
      have sA1 : A1.size ≤ A.size + 2 := by rw [← hA1, ByteArray.size_append]; exact Nat.add_le_add_left (by first | decide | assumption) _
      have rA1 := add_as (P := Tryz.prog) hA1 (by omega)
      obtain ⟨A2, hA2⟩ : ∃ c, A1 ++ nm = c := ⟨_, rfl⟩
      have sA2 : A2.size ≤ A1.size + 24 := by rw [← hA2, ByteArray.size_append]; exact Nat.add_le_add_left (by first | decide | assumption) _
      have rA2 := add_as (P := Tryz.prog) hA2 (by omega)
      obtain ⟨A3, hA3⟩ : ∃ c, A2 ++ ⟨#[32]⟩ = c := ⟨_, rfl⟩
      have sA3 : A3.size ≤ A2.size + 1 := by rw [← hA3, ByteArray.size_append]; exact Nat.add_le_add_left (by first | decide | assumption) _
      have rA3 := add_as (P := Tryz.prog) hA3 (by omega)
      obtain ⟨A4, hA4⟩ : ∃ c, A3 ++ T = c := ⟨_, rfl⟩
      have sA4 : A4.size ≤ A3.size + 45 := by rw [← hA4, ByteArray.size_append]; exact Nat.add_le_add_left (by first | decide | assumption) _
      have rA4 := add_as (P := Tryz.prog) hA4 (by omega)
      obtain ⟨A5, hA5⟩ : ∃ c, A4 ++ ⟨#[32]⟩ = c := ⟨_, rfl⟩
      have sA5 : A5.size ≤ A4.size + 1 := by rw [← hA5, ByteArray.size_append]; exact Nat.add_le_add_left (by first | decide | assumption) _
      have rA5 := add_as (P := Tryz.prog) hA5 (by omega)
      obtain ⟨A6, hA6⟩ : ∃ c, A5 ++ U = c := ⟨_, rfl⟩
      have sA6 : A6.size ≤ A5.size + 45 := by rw [← hA6, ByteArray.size_append]; exact Nat.add_le_add_left (by first | decide | assumption) _
      have rA6 := add_as (P := Tryz.prog) hA6 (by omega)
      obtain ⟨A7, hA7⟩ : ∃ c, A6 ++ ⟨#[10]⟩ = c := ⟨_, rfl⟩
      have sA7 : A7.size ≤ A6.size + 1 := by rw [← hA7, ByteArray.size_append]; exact Nat.add_le_add_left (by first | decide | assumption) _
      have rA7 := add_as (P := Tryz.prog) hA7 (by omega)
      have HN : Hid (UpAt ps qs (i + 1) (k + 1) A7.data.toList) := by
        have h := HN0.out
        have e : A7.data.toList = A.data.toList ++ chgL ⟨nm, y⟩ ⟨nn, z⟩ := by
          have e2 : chgL ⟨nm, y⟩ ⟨nn, z⟩ = [118, 32] ++ Pik.line ⟨nm, y⟩ ++ [32] ++ z.show ++ [10] := by
            unfold chgL
            show (if V4.cmp y z < 0 then _ else if 0 < V4.cmp y z then _ else _) = _
            rw [HR.out, if_neg (by omega), if_pos hpos]
          rw [e2, ← hA7, ← hA6, ← hA5, ← hA4, ← hA3, ← hA2, ← hA1, ← HTx.out, ← HUx.out]; simp [S, Pik.line, Pik.nm]
        rw [e]; exact h
      clear hA1 hA2 hA3 hA4 hA5 hA6 hA7 hpos h0
      go_wp2_with fail
      have hflat : w5.drew.cell? ⟨bx, ox + i * 5, none⟩ = some (.string nm) ∧ w5.drew.cell? ⟨bx, ox + i * 5 + 1, none⟩ = some (.int .i64 y.a) ∧ w5.drew.cell? ⟨bx, ox + i * 5 + 2, none⟩ = some (.int .i64 y.b) ∧ w5.drew.cell? ⟨bx, ox + i * 5 + 3, none⟩ = some (.int .i64 y.c) ∧ w5.drew.cell? ⟨bx, ox + i * 5 + 4, none⟩ = some (.string y.p) ∧ w5.drew.cell? ⟨bz, oz + k * 5, none⟩ = some (.string nn) ∧ w5.drew.cell? ⟨bz, oz + k * 5 + 1, none⟩ = some (.int .i64 z.a) ∧ w5.drew.cell? ⟨bz, oz + k * 5 + 2, none⟩ = some (.int .i64 z.b) ∧ w5.drew.cell? ⟨bz, oz + k * 5 + 3, none⟩ = some (.int .i64 z.c) ∧ w5.drew.cell? ⟨bz, oz + k * 5 + 4, none⟩ = some (.string z.p) ∧ Below w5.drew.heap.size w5.drew w5.drew := ⟨hstc.1.1, hstc.1.2.1, hstc.1.2.2.1, hstc.1.2.2.2.1, hstc.1.2.2.2.2.1, hstc.2.1, hstc.2.2.1, hstc.2.2.2.1, hstc.2.2.2.2.1, hstc.2.2.2.2.2.1, Below.refl _ _⟩
      clear hstc
      go_region_held3 (fun W => W.cell? ⟨bx, ox + i * 5, none⟩ = some (.string nm) ∧ W.cell? ⟨bx, ox + i * 5 + 1, none⟩ = some (.int .i64 y.a) ∧ W.cell? ⟨bx, ox + i * 5 + 2, none⟩ = some (.int .i64 y.b) ∧ W.cell? ⟨bx, ox + i * 5 + 3, none⟩ = some (.int .i64 y.c) ∧ W.cell? ⟨bx, ox + i * 5 + 4, none⟩ = some (.string y.p) ∧ W.cell? ⟨bz, oz + k * 5, none⟩ = some (.string nn) ∧ W.cell? ⟨bz, oz + k * 5 + 1, none⟩ = some (.int .i64 z.a) ∧ W.cell? ⟨bz, oz + k * 5 + 2, none⟩ = some (.int .i64 z.b) ∧ W.cell? ⟨bz, oz + k * 5 + 3, none⟩ = some (.int .i64 z.c) ∧ W.cell? ⟨bz, oz + k * 5 + 4, none⟩ = some (.string z.p) ∧ Below w5.drew.heap.size w5.drew W) (assumption) ((go_at_call 25; first | (with_reducible refine (keepF (by assumption) (HT.out _)).mono ?_; rintro e w6 ⟨rfl, hk6⟩) | (with_reducible refine (keepF (by assumption) (HU'.out _)).mono ?_; rintro e w6 ⟨rfl, hk6⟩)))
      all_goals
        have hbF := below_then hbc.drew hk6.2.2.2.2.2.2.2.2.2.2
        clear hk6 hflat
        go_wp2_with fail
        go_roundw
        case rel => exact ⟨i + 1, k + 1, _, hilt, hklt, by go_num, by go_num, rfl, HN.out, hbF⟩
        case measure => simp [intOf]; omega
    have q9 : decide (0 < r) = false := decide_eq_false hpos
    obtain ⟨A1, hA1⟩ : ∃ c, A ++ ⟨#[94, 32]⟩ = c := ⟨_, rfl⟩
    have sA1 : A1.size ≤ A.size + 2 := by rw [← hA1, ByteArray.size_append]; exact Nat.add_le_add_left (by first | decide | assumption) _
    have rA1 := add_as (P := Tryz.prog) hA1 (by omega)
    obtain ⟨A2, hA2⟩ : ∃ c, A1 ++ nm = c := ⟨_, rfl⟩
    have sA2 : A2.size ≤ A1.size + 24 := by rw [← hA2, ByteArray.size_append]; exact Nat.add_le_add_left (by first | decide | assumption) _
    have rA2 := add_as (P := Tryz.prog) hA2 (by omega)
    obtain ⟨A3, hA3⟩ : ∃ c, A2 ++ ⟨#[32]⟩ = c := ⟨_, rfl⟩
    have sA3 : A3.size ≤ A2.size + 1 := by rw [← hA3, ByteArray.size_append]; exact Nat.add_le_add_left (by first | decide | assumption) _
    have rA3 := add_as (P := Tryz.prog) hA3 (by omega)
    obtain ⟨A4, hA4⟩ : ∃ c, A3 ++ T = c := ⟨_, rfl⟩
    have sA4 : A4.size ≤ A3.size + 45 := by rw [← hA4, ByteArray.size_append]; exact Nat.add_le_add_left (by first | decide | assumption) _
    have rA4 := add_as (P := Tryz.prog) hA4 (by omega)
    obtain ⟨A5, hA5⟩ : ∃ c, A4 ++ ⟨#[32]⟩ = c := ⟨_, rfl⟩
    have sA5 : A5.size ≤ A4.size + 1 := by rw [← hA5, ByteArray.size_append]; exact Nat.add_le_add_left (by first | decide | assumption) _
    have rA5 := add_as (P := Tryz.prog) hA5 (by omega)
    obtain ⟨A6, hA6⟩ : ∃ c, A5 ++ U = c := ⟨_, rfl⟩
    have sA6 : A6.size ≤ A5.size + 45 := by rw [← hA6, ByteArray.size_append]; exact Nat.add_le_add_left (by first | decide | assumption) _
    have rA6 := add_as (P := Tryz.prog) hA6 (by omega)
    obtain ⟨A7, hA7⟩ : ∃ c, A6 ++ ⟨#[10]⟩ = c := ⟨_, rfl⟩
    have sA7 : A7.size ≤ A6.size + 1 := by rw [← hA7, ByteArray.size_append]; exact Nat.add_le_add_left (by first | decide | assumption) _
    have rA7 := add_as (P := Tryz.prog) hA7 (by omega)
    have HN : Hid (UpAt ps qs (i + 1) (k + 1) A7.data.toList) := by
      have h := HN0.out
      have e : A7.data.toList = A.data.toList ++ chgL ⟨nm, y⟩ ⟨nn, z⟩ := by
        have e2 : chgL ⟨nm, y⟩ ⟨nn, z⟩ = [94, 32] ++ Pik.line ⟨nm, y⟩ ++ [32] ++ z.show ++ [10] := by
          unfold chgL
          show (if V4.cmp y z < 0 then _ else if 0 < V4.cmp y z then _ else _) = _
          rw [HR.out, if_pos (by omega)]
        rw [e2, ← hA7, ← hA6, ← hA5, ← hA4, ← hA3, ← hA2, ← hA1, ← HTx.out, ← HUx.out]; simp [S, Pik.line, Pik.nm]
      rw [e]; exact h
    clear hA1 hA2 hA3 hA4 hA5 hA6 hA7 hpos h0
    go_wp2_with fail
    have hflat : w5.drew.cell? ⟨bx, ox + i * 5, none⟩ = some (.string nm) ∧ w5.drew.cell? ⟨bx, ox + i * 5 + 1, none⟩ = some (.int .i64 y.a) ∧ w5.drew.cell? ⟨bx, ox + i * 5 + 2, none⟩ = some (.int .i64 y.b) ∧ w5.drew.cell? ⟨bx, ox + i * 5 + 3, none⟩ = some (.int .i64 y.c) ∧ w5.drew.cell? ⟨bx, ox + i * 5 + 4, none⟩ = some (.string y.p) ∧ w5.drew.cell? ⟨bz, oz + k * 5, none⟩ = some (.string nn) ∧ w5.drew.cell? ⟨bz, oz + k * 5 + 1, none⟩ = some (.int .i64 z.a) ∧ w5.drew.cell? ⟨bz, oz + k * 5 + 2, none⟩ = some (.int .i64 z.b) ∧ w5.drew.cell? ⟨bz, oz + k * 5 + 3, none⟩ = some (.int .i64 z.c) ∧ w5.drew.cell? ⟨bz, oz + k * 5 + 4, none⟩ = some (.string z.p) ∧ Below w5.drew.heap.size w5.drew w5.drew := ⟨hstc.1.1, hstc.1.2.1, hstc.1.2.2.1, hstc.1.2.2.2.1, hstc.1.2.2.2.2.1, hstc.2.1, hstc.2.2.1, hstc.2.2.2.1, hstc.2.2.2.2.1, hstc.2.2.2.2.2.1, Below.refl _ _⟩
    clear hstc
    go_region_held3 (fun W => W.cell? ⟨bx, ox + i * 5, none⟩ = some (.string nm) ∧ W.cell? ⟨bx, ox + i * 5 + 1, none⟩ = some (.int .i64 y.a) ∧ W.cell? ⟨bx, ox + i * 5 + 2, none⟩ = some (.int .i64 y.b) ∧ W.cell? ⟨bx, ox + i * 5 + 3, none⟩ = some (.int .i64 y.c) ∧ W.cell? ⟨bx, ox + i * 5 + 4, none⟩ = some (.string y.p) ∧ W.cell? ⟨bz, oz + k * 5, none⟩ = some (.string nn) ∧ W.cell? ⟨bz, oz + k * 5 + 1, none⟩ = some (.int .i64 z.a) ∧ W.cell? ⟨bz, oz + k * 5 + 2, none⟩ = some (.int .i64 z.b) ∧ W.cell? ⟨bz, oz + k * 5 + 3, none⟩ = some (.int .i64 z.c) ∧ W.cell? ⟨bz, oz + k * 5 + 4, none⟩ = some (.string z.p) ∧ Below w5.drew.heap.size w5.drew W) (assumption) ((go_at_call 25; first | (with_reducible refine (keepF (by assumption) (HT.out _)).mono ?_; rintro e w6 ⟨rfl, hk6⟩) | (with_reducible refine (keepF (by assumption) (HU'.out _)).mono ?_; rintro e w6 ⟨rfl, hk6⟩)))
    all_goals
      have hbF := below_then hbc.drew hk6.2.2.2.2.2.2.2.2.2.2
      clear hk6 hflat
      go_wp2_with fail
      go_roundw
      case rel => exact ⟨i + 1, k + 1, _, hilt, hklt, by go_num, by go_num, rfl, HN.out, hbF⟩
      case measure => simp [intOf]; omega
end Go.Proofs.YtboajinaiceekaaGreatDoor
