/- Solve: the newest picks that go together: the walk. -/
import Derived.Test.YtbgimpeklblcjaaGreatDoorSol8
import Derived.OwnWalk
namespace Go
open Go.RowKit
theorem complW_zero (ks : List Nat) : complW ks 0 [] = allW ks := by
 unfold complW; rw [List.drop_zero]; simp
theorem prodL_nil {ks : List Nat} (h : prodL ks = 0) : allW ks = [] := List.eq_nil_of_length_eq_zero (by rw [allW_len]; exact h)
theorem picksTo_le (T : List PP) (ws : List Nat) (k : Nat) : (picksTo T ws k).length ≤ k := by
 unfold picksTo
 exact Nat.le_trans (List.length_filterMap_le _ _) (by simp)
/-- what the append of a pick reads -/
def ApS (bx : Nat) (pn : ByteArray) (b2 f2 : Nat) (v : V4) (w0 W : World) : Prop :=
 (W.cell? ⟨bx, 0, none⟩ = some (.string pn) ∧ W.cell? ⟨b2, f2, none⟩ = some (.int .i64 v.a) ∧ W.cell? ⟨b2, f2 + 1, none⟩ = some (.int .i64 v.b) ∧ W.cell? ⟨b2, f2 + 2, none⟩ = some (.int .i64 v.c) ∧ W.cell? ⟨b2, f2 + 3, none⟩ = some (.string v.p)) ∧ Below w0.heap.size w0 W
theorem ApS.on {bx : Nat} {pn : ByteArray} {b2 f2 : Nat} {v : V4} {w0 W W' : World} (h : ApS bx pn b2 f2 v w0 W) (hb : Below W.heap.size W W') : ApS bx pn b2 f2 v w0 W' := by
 obtain ⟨⟨a0, b0, b1, b2, b3⟩, d⟩ := h
 exact ⟨⟨cell_on a0 hb, cell_on b0 hb, cell_on b1 hb, cell_on b2 hb, cell_on b3 hb⟩, below_then d hb⟩
end Go
namespace Go.Proofs.YtbgimpeklblcjaaGreatDoor
open Go.RowKit Go.Maps
def SolvePost (lock : List Pik) (needs : List (Want × Value)) (ps : List DPack) (bud : Int) (w : World) (e : Ending) (w' : World) : Prop :=
 ∃ (v : Value) (r : List Pik) (n : Nat) (er : Int), e = .returned (.tuple #[v, .int .i64 (n : Int), .int .i64 er]) ∧ SolIs lock needs ps bud r n er ∧ Piks w' v r ∧ Below w.heap.size w w'
theorem piks_nil (w : World) : Piks w (.slice none 0 0) [] := ⟨rfl, Nat.zero_le _, .inl ⟨_, _, rfl, rfl, fun _ => rfl⟩⟩
def SvRel (k : SK) (ws : List Nat) (w5 : World) (v i : Value) (wr : World) : Prop :=
 ∃ m : Nat, m ≤ k.ts.length ∧ i = .int .i64 (m : Int) ∧ wr.ownsRow w5.heap.size 43 5 v (picksTo k.T ws m).length ((picksTo k.T ws m).flatMap Pik.cells) ∧ Below w5.heap.size w5 wr
theorem info_pick : (Tryz.prog.info? 43).map (fun i => (i.zero, i.size, i.bytes)) = some (some (.agg #[.string ⟨#[]⟩, .int .i64 0, .int .i64 0, .int .i64 0, .string ⟨#[]⟩]), 5, 56) := by kernel_rfl
theorem row5_at (w : World) (B : Nat) (hB : B = w.heap.size) (a b c d e : Value) (t : TypeId) : ∀ j u, [a, b, c, d, e][j]? = some u → (w.alloc (.cells #[a, b, c, d, e] t)).cell? ((⟨B, 0, none⟩ : Addr).add j) = some u := by
 subst hB
 intro j u hj
 match j, hj with
 | 0, hj => simp at hj; subst hj; simp [Addr.add]
 | 1, hj => simp at hj; subst hj; simp [Addr.add]
 | 2, hj => simp at hj; subst hj; simp [Addr.add]
 | 3, hj => simp at hj; subst hj; simp [Addr.add]
 | 4, hj => simp at hj; subst hj; simp [Addr.add]
set_option maxRecDepth 100000 in
set_option maxHeartbeats 8000000 in
theorem solve_as {lock : List Pik} {needs : List (Want × Value)} {ps : List DPack} {pk lk nv : Value} {w : World} (C : TabCtx lock needs ps pk lk nv w) (hB : ∀ ts, TableIs lock needs ps ts → TabB (ppL ts)) (bud : Int) (h0 : -9223372036854775808 ≤ bud) (h1 : bud ≤ 9223372036854775807) :
  Calls Tryz.prog 17 #[pk, lk, nv, .int .i64 bud] w (SolvePost lock needs ps bud w) := by
 have HC := Lib.hid C
 have HB := Lib.hid hB
 obtain ⟨er, her⟩ : ∃ e, needErr needs = e := ⟨_, rfl⟩
 have hCk := chCheck_any nv needs w C.wants C.env (fun x hx => (C.nds x hx).2)
 rw [her] at hCk
 have HCk := Lib.hid hCk
 have HEr := Lib.hid her
 clear C hB hCk her
 go_enter Tryz.func17, Tryz.ntmps17
 go_wp2_with fail
 refine HCk.out.mono ?_
 rintro e w1 ⟨rfl, hb1⟩
 by_cases he : er = 0
 case neg =>
  have q0 : (er == 0) = false := beq_eq_false_iff_ne.2 he
  have HF : Hid (SolvePost lock needs ps bud w (.returned (.tuple #[.slice none 0 0, .int .i64 0, .int .i64 er])) w1) :=
   ⟨_, [], 0, er, rfl, .inl ⟨by rw [HEr.out]; exact he, rfl, rfl, HEr.out.symm⟩, piks_nil _, hb1⟩
  clear he hb1
  go_wp2_with fail
  go_ret3
  exact HF.out
 subst he
 by_cases hlo : bud < 1
 ·have q1 : decide (bud < 1) = true := decide_eq_true hlo
  have HF : Hid (SolvePost lock needs ps bud w (.returned (.tuple #[.slice none 0 0, .int .i64 0, .int .i64 2])) w1) :=
   ⟨_, [], 0, 2, rfl, .inr (.inl ⟨HEr.out, .inl hlo, rfl, rfl, rfl⟩), piks_nil _, hb1⟩
  clear hlo hb1
  go_wp2_with fail
  go_ret3
  exact HF.out
 have q1 : decide (bud < 1) = false := decide_eq_false hlo
 by_cases hhi : 1000000 < bud
 ·have q2 : decide (1000000 < bud) = true := decide_eq_true hhi
  have HF : Hid (SolvePost lock needs ps bud w (.returned (.tuple #[.slice none 0 0, .int .i64 0, .int .i64 2])) w1) :=
   ⟨_, [], 0, 2, rfl, .inr (.inl ⟨HEr.out, .inr hhi, rfl, rfl, rfl⟩), piks_nil _, hb1⟩
  clear hlo hhi hb1
  go_wp2_with fail
  go_ret3
  exact HF.out
 have q2 : decide (1000000 < bud) = false := decide_eq_false hhi
 obtain ⟨bn, rfl⟩ : ∃ bn : Nat, bud = (bn : Int) := ⟨bud.toNat, by omega⟩
 have HBg := Lib.hid (begin_as (HC.out.on hb1) HB.out bn (by omega))
 have hbn1 : 1 ≤ bn := by omega
 have hbn6 : bn ≤ 1000000 := by omega
 have hb1' := Lib.hid hb1
 clear hlo hhi h0 h1 hb1
 go_wp2_with fail
 refine HBg.out.mono ?_
 rintro e w2 ⟨k, rfl, hK, hkn, hkb, hkt, hkw, hS⟩
 have hak : k.ak = askN needs := by unfold SK.ak; rw [hkn]
 have hT : k.T = ppL k.ts := rfl
 have hks : k.ks = ksOf (askN needs) (ppL k.ts) := by unfold SK.ks; rw [hak]; rfl
 obtain ⟨_, _, _, c3, _, _, _, hz⟩ := hS.cells
 have db := hS.bel.cell (i := 0) (Nat.succ_pos _)
 rw [List.drop_zero, hkb] at db
 have HK := Lib.hid hK
 have HS := Lib.hid hS
 have HKs := Lib.hid (⟨hak, hks, hkb, hkt, hkw⟩ : _ ∧ _ ∧ _ ∧ _ ∧ _)
 have hn6 : k.ts.length ≤ 1000000 := by have := hK.Bd.few; rwa [k.T_len] at this
 have hzb := hS.bel.lt
 have j1 : (0 : Int) < (k.ts.length : Int) + 1 := by omega
 have j2 : (0 : Int) < ((k.ts.length + 1 : Nat) : Int) := by omega
 obtain ⟨nb, hnb⟩ : ∃ x, min (prodL k.ks) (bn + 1) = x := ⟨_, rfl⟩
 rw [hnb] at db
 have HNb := Lib.hid hnb
 clear hK hS hkn hkb hkt hkw hak hks hnb hT
 go_upto_if 41 with fail
 go_cut [13, 14] (fun f o wx => ∃ (found out : Bool) (ws' : List Nat) (s' : Nat), f = .bool found ∧ o = .bool out ∧ Srch k wx ws' s' ∧ Part (GoodW k.T k.ak) (allW k.ks) 0 k.bud found out s' ws')
 case first =>
  by_cases hp : prodL k.ks = 0
  ·have hn0 : nb = 0 := by have := HNb.out; omega
   have q3 : decide ((0 : Int) < (nb : Int)) = false := decide_eq_false (by omega)
   have q4 : decide (0 < nb) = false := decide_eq_false (by omega)
   have HF : Hid (Part (GoodW k.T k.ak) (allW k.ks) 0 k.bud false false 0 (zerosN k.ts.length)) := by
    rw [prodL_nil hp]
    exact .inr (.inl ⟨rfl, rfl, rfl, Nat.zero_le _, fun j hj => absurd hj (Nat.not_lt_zero _)⟩)
   clear hp hn0
   rw [q4]
   go_wp2_with fail
   go_meet
   case rel => exact ⟨false, false, _, 0, rfl, rfl, HS.out, HF.out⟩
  ·have hn0 : 0 < nb := by have := HNb.out; omega
   have q3 : decide ((0 : Int) < (nb : Int)) = true := decide_eq_true (by omega)
   have q4 : decide (0 < nb) = true := decide_eq_true hn0
   have hFr : Calls Tryz.prog 45 #[.pointer (some ⟨k.B, 0, none⟩), .int .i64 0] w2 (FromPost k (zerosN k.ts.length) 0 0) :=
    from_as HK.out _ w2 _ 0 0 rfl (Nat.zero_le _) HS.out (Nat.zero_le _) (fun j hj => absurd hj (Nat.not_lt_zero _))
   have HFr := Lib.hid hFr
   clear hp hn0 hFr
   rw [q4]
   go_wp2_with fail
   refine HFr.out.mono ?_
   rintro e w3 ⟨found, out, ws', s', rfl, hS3, _, hpart⟩
   rw [List.take_zero, complW_zero] at hpart
   have HP := Lib.hid (⟨hS3, hpart⟩ : _ ∧ _)
   clear hS3 hpart
   go_wp2_with fail
   go_meet
   case rel => exact ⟨found, out, ws', s', rfl, rfl, HP.out.1, HP.out.2⟩
 case rest =>
  obtain ⟨found, out, ws', s', rfl, rfl, hS3, hpart⟩ := hcut
  rw [HKs.out.2.2.1] at hpart
  have hin : ∀ (r : Option (List Nat)) (n : Nat) (er : Int), SolTold (GoodW k.T k.ak) (allW k.ks) bn r n er → SolIs lock needs ps (bn : Int) ((r.map (picksL k.T)).getD []) n er := fun r n er h => by
   rw [HKs.out.1, HKs.out.2.1] at h
   exact .inr (.inr ⟨HEr.out, by omega, by omega, k.ts, HKs.out.2.2.2.1, r, by rw [Int.toNat_natCast]; exact h, rfl⟩)
  have HIn := Lib.hid hin
  have hbw : Below w.heap.size w wc := (below_then hb1'.out HKs.out.2.2.2.2).trans (hS3.below.mono (below_then hb1'.out HKs.out.2.2.2.2).size)
  obtain ⟨d0, _, _, _, d4, _, _, hz3⟩ := hS3.cells
  have HBw := Lib.hid hbw
  clear c3 db hz hzb hin hbw
  rcases hpart.told with ⟨rfl, rfl, ht⟩ | ⟨rfl, rfl, ht⟩ | ⟨rfl, rfl, ht⟩
  ·have hisw : IsW k.ks ws' := by
    rcases ht with ⟨_, m, hm, he, _⟩ | ⟨h, _⟩ | ⟨h, _⟩
    ·injection he with he
     rw [he]; exact mem_allW.1 (List.getElem_mem hm)
    ·cases h
    ·cases h
   have hwo : ∀ j, j < k.ts.length → WayOk k ws' j := fun j hj => by
    have hwj := List.getElem?_eq_getElem (show j < ws'.length by rw [hS3.wl]; exact hj)
    have h2 := hisw.2 j _ _ hwj (k.ks_at hj)
    exact ⟨hj, _, hwj, by split at h2 <;> omega⟩
   have HWo := Lib.hid hwo
   have HTl := Lib.hid ht
   have HS3 := Lib.hid hS3
   obtain ⟨w5, rfl⟩ : ∃ x, x = wc := ⟨_, rfl⟩
   obtain ⟨i0', hi, hq0, hq1, hq2⟩ := info_of info_pick
   have hst : SvRel k ws' w5 (.slice none 0 0) (.int .i64 0) w5 := ⟨0, Nat.zero_le _, rfl, World.ownsRow_nil _ _ _ _, Below.refl _ _⟩
   have HSt := Lib.hid hst
   clear hpart hisw hwo ht hS3 hst
   go_wp2_with fail
   go_loopw [15, 62] (fun v i wr => SvRel k ws' w5 v i wr) (fun _ i _ => k.ts.length - (intOf i).toNat)
   case atStart => exact HSt.out
   case round =>
    obtain ⟨m, hm, rfl, hown, hb⟩ := hrel
    have HOw := Lib.hid hown
    have HB5 := Lib.hid hb
    have HSr := Lib.hid (HS3.out.on hb)
    by_cases hlt : m < k.ts.length
    ·have i0 : (0 : Int) ≤ (m : Int) := by omega
     have i1 : (m : Int) < (k.ts.length : Int) := by omega
     obtain ⟨bx, ox, hta, g0, g1⟩ := HSr.out.pack HK.out hlt
     have hnm := k.nam hlt
     obtain ⟨⟨pn, po, pa, pc⟩, hxe⟩ : ∃ x, k.ts[m] = x := ⟨_, rfl⟩
     rw [hxe] at g0 g1 hnm
     simp only [DPack.ov] at g0 g1
     have hsn : S (namL k.T m) = pn := by rw [hnm]; exact S_of _
     have HSn := Lib.hid hsn
     have hal := (Below.refl wr.heap.size wr).alloc (Nat.le_refl _) (.cells #[.string pn, .slice pa po.length pc] 52)
     have e0 := box_cells (Below.refl (wr.heap.size + 1) (wr.alloc (.cells #[.string pn, .slice pa po.length pc] 52))) 0
     simp only [List.getElem?_toArray, List.getElem?_cons_zero] at e0
     have HTk := Lib.hid (quiet_below (taken_as HK.out (HSr.out.on hal) (HWo.out m hlt)))
     have HOa := Lib.hid (owns_below HOw.out hal)
     have HBa := Lib.hid (hb.alloc hb.size (.cells #[.string pn, .slice pa po.length pc] 52))
     have hsz : (wr.alloc (.cells #[.string pn, .slice pa po.length pc] 52)).heap.size = wr.heap.size + 1 := by simp
     have Hsz := Lib.hid hsz
     have hal' := hal
     clear hxe hnm hsn hown hb d4 d0 hsz
     have HAl := Lib.hid (HSr.out.on hal').below
     clear hal hal'
     go_wp2_with fail
     rw [hta]
     generalize wr.alloc (.cells #[.string pn, .slice pa po.length pc] 52) = wa at *
     refine HTk.out.mono ?_
     rintro e w6 ⟨⟨p, rfl, hp⟩, hb6⟩
     have hB6 := below_then HBa.out hb6
     have HO6 := Lib.hid (owns_below HOa.out hb6)
     have e6 := cell_on e0 hb6
     rcases hp with ⟨hnone, rfl⟩ | ⟨o, b2, f2, hsome, rfl, hoff⟩
     ·have hpk : Hid (picksTo k.T ws' (m + 1) = picksTo k.T ws' m) := by
       show _ = _
       rw [picksTo_succ, pickAt, hnone]; simp
      have HB6 := Lib.hid hB6
      clear hnone hB6 hb6 e6 e0
      go_wp2_with fail
      rw [← hta]
      go_roundw
      case rel => exact ⟨m + 1, hlt, by go_num, by rw [hpk.out]; exact HO6.out, HB6.out⟩
      case measure => simp [intOf]; omega
     ·obtain ⟨⟨v1, v2, v3, v4⟩, hov⟩ : ∃ x, o.v = x := ⟨_, rfl⟩
      have hpk : Hid (picksTo k.T ws' (m + 1) = picksTo k.T ws' m ++ [⟨pn, ⟨v1, v2, v3, v4⟩⟩]) := by
       show _ = _
       rw [picksTo_succ, pickAt, hsome, HSn.out]
       show _ = _ ++ [_]
       rw [← hov]; rfl
      have hoff5 : OffIs w5 b2 f2 o := OffIs.on hoff HS3.out.below
      obtain ⟨hb2, o1, o2, o3, o4, _, _, _⟩ := hoff5
      rw [hov] at o1 o2 o3 o4
      simp only at o1 o2 o3 o4
      have hBd6 := hB6.drew
      have hd6 := (Below.refl w6.heap.size w6).drew
      have hst : ApS wr.heap.size pn b2 f2 ⟨v1, v2, v3, v4⟩ w5 w6.drew := ⟨⟨cell_on e6 hd6, cell_on o1 hBd6, cell_on o2 hBd6, cell_on o3 hBd6, cell_on o4 hBd6⟩, hBd6⟩
      have HO7 := Lib.hid (owns_below HO6.out hd6)
      have HOf := Lib.hid (⟨hb2, o1, o2, o3, o4⟩ : _ ∧ _ ∧ _ ∧ _ ∧ _)
      have hpl : (picksTo k.T ws' m).length ≤ m := picksTo_le _ _ _
      have hz6 : wr.heap.size + 1 ≤ w6.heap.size := by have h := hb6.size; rw [Hsz.out] at h; exact h
      have hz5 : w5.heap.size ≤ w6.heap.size := by have := HB5.out.size; omega
      have Hne := Lib.hid (fun g (h : u15.ownBlock = some g) => (HOw.out.lt g h).2)
      clear hsome hov hoff hB6 hBd6 hd6 hb2 o1 o2 o3 o4 e6 e0 hb6
      go_wp2_with fail
      refine wp_region_held_drew (S := (fun W => ApS wr.heap.size pn b2 f2 ⟨v1, v2, v3, v4⟩ w5 W)) (by kernel_rfl) (hst) (fun hHeld => ?_)
      refine wpAnyH_take (i := 0) (v := ?_) rfl (by kernel_rfl) (by kernel_rfl) (by kernel_rfl) (fun _ _ _ h => h) (Or.inl ⟨by kernel_rfl, ?_⟩) hHeld ?_
      rotate_left
      ·(rintro W ⟨⟨e0, e1, e2, e3, e4⟩, _⟩; go_simp; (try with_reducible rfl))
      (try simp only [Act.put, putL])
      refine wpAnyH_take (i := 1) (v := ?_) rfl (by kernel_rfl) (by kernel_rfl) (by kernel_rfl) (fun _ _ _ h => h) (Or.inl ⟨by kernel_rfl, ?_⟩) hHeld ?_
      rotate_left
      ·(rintro W ⟨⟨e0, e1, e2, e3, e4⟩, _⟩; go_simp; (try with_reducible rfl))
      (try simp only [Act.put, putL])
      refine wpAnyH_take (i := 2) (v := ?_) rfl (by kernel_rfl) (by kernel_rfl) (by kernel_rfl) (fun _ _ _ h => h) (Or.inl ⟨by kernel_rfl, ?_⟩) hHeld ?_
      rotate_left
      ·(rintro W ⟨⟨e0, e1, e2, e3, e4⟩, _⟩; go_simp; (try with_reducible rfl))
      (try simp only [Act.put, putL])
      refine wpAnyH_take (i := 3) (v := ?_) rfl (by kernel_rfl) (by kernel_rfl) (by kernel_rfl) (fun _ _ _ h => h) (Or.inl ⟨by kernel_rfl, ?_⟩) hHeld ?_
      rotate_left
      ·(rintro W ⟨⟨e0, e1, e2, e3, e4⟩, _⟩; go_simp; (try with_reducible rfl))
      (try simp only [Act.put, putL])
      refine wpAnyH_take (i := 4) (v := ?_) rfl (by kernel_rfl) (by kernel_rfl) (by kernel_rfl) (fun _ _ _ h => h) (Or.inl ⟨by kernel_rfl, ?_⟩) hHeld ?_
      rotate_left
      ·(rintro W ⟨⟨e0, e1, e2, e3, e4⟩, _⟩; go_simp; (try with_reducible rfl))
      (try simp only [Act.put, putL])
      refine wpAnyH_take (i := 5) (v := ?_) rfl (by kernel_rfl) (by kernel_rfl) (by kernel_rfl) (fun _ _ _ h => h) (Or.inl ⟨by kernel_rfl, ?_⟩) hHeld ?_
      rotate_left
      ·(rintro W ⟨⟨e0, e1, e2, e3, e4⟩, _⟩; go_simp; (try with_reducible rfl))
      (try simp only [Act.put, putL])
      refine wpAnyH_take (i := 6) (v := ?_) rfl (by kernel_rfl) (by kernel_rfl) (by kernel_rfl) (fun _ _ _ h => h) (Or.inl ⟨by kernel_rfl, ?_⟩) hHeld ?_
      rotate_left
      ·(rintro W ⟨⟨e0, e1, e2, e3, e4⟩, _⟩; go_simp; (try with_reducible rfl))
      (try simp only [Act.put, putL])
      refine wpAnyH_take (i := 7) (v := ?_) rfl (by kernel_rfl) (by kernel_rfl) (by kernel_rfl) (fun _ _ _ h => h) (Or.inl ⟨by kernel_rfl, ?_⟩) hHeld ?_
      rotate_left
      ·(rintro W ⟨⟨e0, e1, e2, e3, e4⟩, _⟩; go_simp; (try with_reducible rfl))
      (try simp only [Act.put, putL])
      refine wpAnyH_ready (rs := [8]) (by kernel_rfl) (by simp) ?_
      refine AllReadyH.cons rfl (fun K hK => ?_) AllReadyH.nil
      go_simp
      have hal := (Below.refl w6.drew.heap.size w6.drew).alloc (Nat.le_refl _) (.cells #[.string pn, .int .i64 v1, .int .i64 v2, .int .i64 v3, .string v4] 43)
      refine hK.out _ _ (hHeld.on hal) (fun hHeld => ?_)
      clear hK K
      (try simp only [Act.put, putL])
      have hBl := hHeld.2
      have hBx := hHeld.1.1
      refine wpAnyH_ready (rs := [9]) (by kernel_rfl) (by simp) ?_
      refine AllReadyH.cons rfl (fun K hK => ?_) AllReadyH.nil
      refine step_append_ats (by rfl) (.tmp 72) (.tmp 80) 23 (by rfl) w5.heap.size 43 i0' (.agg #[.string ⟨#[]⟩, .int .i64 0, .int .i64 0, .int .i64 0, .string ⟨#[]⟩]) 5 56 Tryz.underlying23 hi hq0 hq1 hq2 rfl (by decide) u15 (picksTo k.T ws' m).length ((picksTo k.T ws' m).flatMap Pik.cells) (by simp [Act.eval]) (HO7.out.alloc _) ⟨w6.heap.size, 0, none⟩ 1 1 [.string pn, .int .i64 v1, .int .i64 v2, .int .i64 v3, .string v4] (by simp [Act.eval]) rfl (row5_at _ _ rfl _ _ _ _ _ _) (by intro u hu; simp at hu; rcases hu with rfl | rfl | rfl | rfl | rfl <;> rfl) (by unfold maxLen; omega) (by omega) hBl.size ?_
      intro v14 w14 hown14 hg14 hk14
      have hB14 := below_grown hBl (HO7.out.alloc _) hg14 hBl.size
      have hbk := hg14.block wr.heap.size (by simp; omega) (fun e => by have := Hne.out _ e.symm; omega)
      have hS14 : ApS wr.heap.size pn b2 f2 ⟨v1, v2, v3, v4⟩ w5 w14 := by
       obtain ⟨hb2, o1, o2, o3, o4⟩ := HOf.out
       refine ⟨⟨?_, by rw [hB14.cell hb2]; exact o1, by rw [hB14.cell hb2]; exact o2, by rw [hB14.cell hb2]; exact o3, by rw [hB14.cell hb2]; exact o4⟩, hB14⟩
       unfold World.cell? at hBx ⊢
       simp only at hBx ⊢
       rw [hbk]; exact hBx
      have HG14 := Lib.hid (⟨hown14, hB14⟩ : _ ∧ _)
      clear hown14 hg14 hk14 hB14 hbk
      refine hK.out _ _ hS14 (fun hHeld => ?_)
      clear hK K
      (try simp only [Act.put, putL])
      refine wpAnyH_take (i := 10) (v := ?_) rfl (by kernel_rfl) (by kernel_rfl) (by kernel_rfl) (fun _ _ _ h => h) (Or.inl ⟨by kernel_rfl, ?_⟩) hHeld ?_
      rotate_left
      ·(rintro W ⟨⟨e0, e1, e2, e3, e4⟩, _⟩; go_simp; (try with_reducible rfl))
      (try simp only [Act.put, putL])
      refine wpAnyH_done (by kernel_rfl) ?_ _
      clear hHeld hst
      go_wp2
      rw [← hta]
      go_roundw
      case rel => exact ⟨m + 1, hlt, by go_num, by rw [hpk.out, List.flatMap_append, List.length_append]; exact HG14.out.1, HG14.out.2⟩
      case measure => simp [intOf]; omega
    ·have i1 : decide (m < k.ts.length) = false := decide_eq_false hlt
     have hme : m = k.T.length := by rw [k.T_len]; omega
     have HF : Hid (SolIs lock needs ps bn (picksL k.T ws') s' 0 ∧ Piks wr u15 (picksL k.T ws') ∧ Below w.heap.size w wr) :=
      ⟨by have := HIn.out _ _ _ HTl.out; exact this, Piks.of_owns (by unfold picksL; rw [← hme]; exact hown), HBw.out.trans (hb.mono HBw.out.size)⟩
     obtain ⟨f0, _, _, _, f4, _, _, _⟩ := HSr.out.cells
     clear hlt hme hown hb d4 d0
     go_wp2_with fail
     go_quiet (fail)
     go_wp2_with fail
     go_ret3
     exact ⟨u15, picksL k.T ws', s', 0, rfl, HF.out.1, HF.out.2.1.below (below_drewN (Below.refl _ _) _) (Nat.le_refl _), below_drewN HF.out.2.2 _⟩
  ·have HF := Lib.hid (HIn.out _ _ _ ht)
   clear hpart ht
   go_wp2_with fail
   go_quiet (fail)
   go_wp2_with fail
   go_ret3
   exact ⟨_, [], s', 250, rfl, HF.out, piks_nil _, below_drewN HBw.out _⟩
  ·have HF := Lib.hid (HIn.out _ _ _ ht)
   clear hpart ht
   go_wp2_with fail
   go_ret3
   exact ⟨_, [], bn, 251, rfl, HF.out, piks_nil _, HBw.out⟩
end Go.Proofs.YtbgimpeklblcjaaGreatDoor
