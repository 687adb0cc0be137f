/- Explain: what is told of the first needs, by the reference: the walk of its Text. -/
import Derived.Test.YtbgimpeklblcjaaGreatDoorExPick
import Derived.Test.YtbgimpeklblcjaaGreatDoorExTells
import Derived.Test.YtbgimpeklblcjaaGreatDoorExRan4
import Derived.Test.YtbgimpeklblcjaaGreatDoorSolWalks
namespace Go
open Go.RowKit
theorem findP_offs {w : World} {pk : Value} {ps : List DPack} (hp : Packs w pk ps) (hO : ∀ p ∈ ps, p.os.length ≤ 100 ∧ ∀ o ∈ p.os, OffP o) (nm : ByteArray) :
  Offs w (findP ps nm).ov (findP ps nm).os ∧ (findP ps nm).os.length ≤ 100 ∧ ∀ o ∈ (findP ps nm).os, OffP o := by
 unfold findP
 cases h : ps.find? fun p => decide (p.name = nm) with
 | none => exact ⟨⟨⟨rfl, Nat.zero_le _, .inl ⟨_, _, rfl, rfl, fun _ => rfl⟩⟩, fun o ho => by cases ho⟩, Nat.zero_le _, fun o ho => by cases ho⟩
 | some p =>
  have hm := List.mem_of_find?_eq_some h
  exact ⟨(hp.2 p hm).1, hO p hm⟩
/-- what the region looks at -/
def VerA (b o : Nat) (v : V4) (W : World) : Prop := W.cell? ⟨b, o, none⟩ = some (.int .i64 v.a) ∧ W.cell? ⟨b, o + 1, none⟩ = some (.int .i64 v.b) ∧ W.cell? ⟨b, o + 2, none⟩ = some (.int .i64 v.c) ∧ W.cell? ⟨b, o + 3, none⟩ = some (.string v.p)
theorem VerA.on {b o : Nat} {v : V4} {W W' : World} (h : VerA b o v W) (hb : Below W.heap.size W W') : VerA b o v W' := ⟨cell_on h.1 hb, cell_on h.2.1 hb, cell_on h.2.2.1 hb, cell_on h.2.2.2 hb⟩
def TxS (g i : Nat) (d : Bool) (b o : Nat) (v : V4) (w0 W : World) : Prop := W.cell? ⟨g, i, none⟩ = some (.bool d) ∧ VerA b o v W ∧ Below w0.heap.size w0 W
theorem TxS.on {g i : Nat} {d : Bool} {b o : Nat} {v : V4} {w0 W W' : World} (h : TxS g i d b o v w0 W) (hb : Below W.heap.size W W') : TxS g i d b o v w0 W' := ⟨cell_on h.1 hb, h.2.1.on hb, below_then h.2.2 hb⟩
theorem offsT_len {os : List DOff} {L : List (DOff × Nat)} (h : PickIs os L) (hl : L.length ≤ 100) : ((L.map Prod.fst).flatMap offT).length ≤ 10000 := by
 have h1 := flat_len (f := offT) (m := 100) (L.map Prod.fst) (fun x hx => by
  obtain ⟨y, hy, rfl⟩ := List.mem_map.1 hx
  exact offT_len (h.1 y hy).2)
 rw [List.length_map] at h1
 omega
theorem needsT_len {needs : List (Want × Value)} (hN : NeedsP needs) (hok : ∀ x ∈ needs, nameOk x.1.name = true ∧ rangeOk x.1.bs = true) (j : Nat) : ((needs.take j).flatMap needT).length ≤ 90000 := by
 have h1 := flat_len (f := needT) (m := 3000) (needs.take j) (fun x hx => needT_len (hN.2 x (List.mem_of_mem_take hx)).2.1 (hok x (List.mem_of_mem_take hx)).2)
 have h2 : (needs.take j).length ≤ 30 := by rw [List.length_take]; have := hN.1; omega
 omega
end Go
namespace Go.Proofs.YtbgimpeklblcjaaGreatDoor
open Go.RowKit Go.Maps
/-- the marks, in the call's own row -/
def DnAt (n g : Nat) (w : World) (f : Nat → Bool) (wr : World) : Prop := wr.rowIs g 4 n (fun j => .bool (f j)) ∧ w.heap.size ≤ g ∧ Below w.heap.size w wr
theorem DnAt.on {n g : Nat} {w : World} {f : Nat → Bool} {W W' : World} (h : DnAt n g w f W) (hb : Below W.heap.size W W') : DnAt n g w f W' := ⟨h.1.of_block (hb.block _ h.1.lt), h.2.1, below_then h.2.2 hb⟩
theorem DnAt.put {n g : Nat} {w : World} {f f' : Nat → Bool} {W : World} (h : DnAt n g w f W) (i : Nat) (hf : ∀ j, f' j = if j = i then true else f j) : DnAt n g w f' (W.setCell ⟨g, i, none⟩ (.bool true)) := by
 refine ⟨(h.1.set i _).congr fun j _ => ?_, h.2.1, h.2.2.setCell h.2.1 _⟩
 rw [hf]
 by_cases e : j = i
 ·rw [if_pos e, if_pos e]
 ·rw [if_neg e, if_neg e]
def RtRel (needs : List (Want × Value)) (m : Nat) (w : World) (v i : Value) (wr : World) : Prop :=
 ∃ (j : Nat) (X : List UInt8), j ≤ m + 1 ∧ i = .int .i64 (j : Int) ∧ v = .string (S X) ∧ X = (needs.take j).flatMap needT ∧ Below w.heap.size w wr
def RuRel (os : List DOff) (D : List UInt8) (g : Nat) (w : World) (v n : Value) (wr : World) : Prop :=
 ∃ (j : Nat) (L : List (DOff × Nat)) (X : List UInt8), j ≤ os.length ∧ n = .int .i64 (j : Int) ∧ v = .string (S X) ∧ X = D ++ (L.map Prod.fst).flatMap offT ∧ PickIs os L ∧ L.length ≤ j ∧ (L.length = j ∨ ∀ y, ¬ CandD os L y) ∧ DnAt os.length g w (doneD L) wr
def RvRel (os : List DOff) (L : List (DOff × Nat)) (g : Nat) (w : World) (b i : Value) (wr : World) : Prop :=
 ∃ (j : Nat) (c : Int), j ≤ os.length ∧ i = .int .i64 (j : Int) ∧ b = .int .i64 c ∧ BestD os L j c ∧ DnAt os.length g w (doneD L) wr
set_option maxRecDepth 100000 in
set_option maxHeartbeats 16000000 in
theorem rexText_any (pk nv : Value) (ps : List DPack) (needs : List (Want × Value)) (k : Int) (w : World) (hp : Packs w pk ps) (hn : Wants w nv needs) (hN : NeedsP needs) (hO : ∀ p ∈ ps, p.os.length ≤ 100 ∧ ∀ o ∈ p.os, OffP o) :
  Calls Tryz.prog 14 #[pk, nv, .int .i64 k] w (TextPost needs ps k w) := by
 obtain ⟨hmx, na, nc, rfl⟩ := hn.len
 have HX := Lib.hid (⟨hp, hn⟩ : _ ∧ _)
 have HN := Lib.hid hN
 have HO := Lib.hid hO
 obtain ⟨er, her⟩ : ∃ e, needErr needs = e := ⟨_, rfl⟩
 have hCk := rchCheck_any _ needs w hn (fun x hx b hb => by have := (hN.2 x hx).2.2 b hb; omega)
 rw [her] at hCk
 have HCk := Lib.hid hCk
 have HEr := Lib.hid her
 have hn30 : needs.length ≤ 30 := hN.1
 clear hp hn hN hO hCk her hmx
 by_cases g1 : k < 1
 ·have q1 : decide (k < 1) = true := decide_eq_true g1
  have HF : Hid (TextPost needs ps k w (.returned (.tuple #[.string ⟨#[]⟩, .int .i64 2])) w) := ⟨_, _, rfl, .inl ⟨.inl g1, rfl, rfl⟩, Below.refl _ _⟩
  clear g1
  go_enter Tryz.func14, Tryz.ntmps14
  go_wp2_with fail
  go_ret2
  exact HF.out
 have q1 : decide (k < 1) = false := decide_eq_false g1
 by_cases g2 : (needs.length : Int) < k
 ·have q2 : decide ((needs.length : Int) < k) = true := decide_eq_true g2
  have HF : Hid (TextPost needs ps k w (.returned (.tuple #[.string ⟨#[]⟩, .int .i64 2])) w) := ⟨_, _, rfl, .inl ⟨.inr g2, rfl, rfl⟩, Below.refl _ _⟩
  clear g1 g2
  go_enter Tryz.func14, Tryz.ntmps14
  go_wp2_with fail
  go_ret2
  exact HF.out
 have q2 : decide ((needs.length : Int) < k) = false := decide_eq_false g2
 obtain ⟨m, hmk⟩ : ∃ m : Nat, k = (m : Int) + 1 := ⟨(k - 1).toNat, by omega⟩
 have hml : m < needs.length := by omega
 have HK := Lib.hid (⟨hmk, hml, not_or.2 ⟨g1, g2⟩⟩ : _ ∧ _ ∧ _)
 have hkz : IntKind.i64.wrap (k - 1) = (m : Int) := by rw [IntKind.wrap_i64]; omega
 have m0 : (0 : Int) ≤ (m : Int) := by omega
 have m1 : (m : Int) < (needs.length : Int) := by omega
 clear g1 g2 hmk
 go_enter Tryz.func14, Tryz.ntmps14
 go_wp2_with fail
 refine HCk.out.mono ?_
 rintro e w1 ⟨rfl, hb1⟩
 by_cases he : er = 0
 case neg =>
  have q0 : (er != 0) = true := bne_iff_ne.2 he
  have HF : Hid (TextPost needs ps k w (.returned (.tuple #[.string ⟨#[]⟩, .int .i64 er])) w1) := ⟨_, _, rfl, .inr (.inl ⟨HK.out.2.2, by rw [HEr.out]; exact he, rfl, HEr.out.symm⟩), hb1⟩
  clear he hb1
  go_wp2_with fail
  go_ret2
  exact HF.out
 subst he
 have HOk := Lib.hid (needErr_each HEr.out)
 have HB1 := Lib.hid hb1
 clear hb1
 go_wp2_with fail
 go_loopw [9, 10, 11, 12] (fun v i _ _ wr => RtRel needs m w v i wr) (fun _ i _ _ _ => m + 1 - (intOf i).toNat)
 case atStart => exact ⟨0, [], Nat.zero_le _, rfl, rfl, rfl, HB1.out⟩
 case round =>
  obtain ⟨j, X, hj, rfl, rfl, hX, hb⟩ := hrel
  have hXl : X.length ≤ 90000 := by rw [hX]; exact needsT_len HN.out HOk.out j
  have HXe := Lib.hid hX
  have HB := Lib.hid hb
  clear hX
  by_cases hlt : j < m + 1
  ·have qj : decide ((j : Int) < k) = true := decide_eq_true (by have := HK.out.1; omega)
   have qj2 : (j : Int) < k := by have := HK.out.1; omega
   have hjl : j < needs.length := by omega
   have j0 : (0 : Int) ≤ (j : Int) := by omega
   have j1 : (j : Int) < (needs.length : Int) := by omega
   obtain ⟨bn, qn, rfl, hbn, c0, c1⟩ := HX.out.2.at' hb hjl
   have HTk := Lib.hid (List.take_succ_eq_append_getElem hjl)
   obtain ⟨⟨nd, rv⟩, hne⟩ : ∃ x, needs[j] = x := ⟨_, rfl⟩
   have hmem := List.getElem_mem hjl
   rw [hne] at c0 c1 hmem
   have HTk2 : Hid (needs.take (j + 1) = needs.take j ++ [(nd, rv)]) := by show _ = _; rw [HTk.out, hne]
   obtain ⟨hbs, ra, rc, hrv⟩ := HX.out.2.2 _ hmem
   simp only at c0 c1 hbs hrv
   subst hrv
   obtain ⟨_, hnl, hbz⟩ := HN.out.2 _ hmem
   obtain ⟨_, hrok⟩ := HOk.out _ hmem
   simp only at hnl hbz hrok
   have hrl := showR_lenE hrok
   have HSh := Lib.hid (rrshow_yes _ nd.bs wr (hbs.below hb (Nat.le_refl _)) ⟨_, _, rfl⟩ (fun b hb => by have := hbz b hb; omega) hrok)
   have r1 := fun W => add_asE (P := Tryz.prog) (a := S X) (b := S nd.name) (c := S (X ++ nd.name)) (S_append _ _) (by rw [S_sizeE]; simp; omega) W
   have r2 := fun W => add_asE (P := Tryz.prog) (a := S (X ++ nd.name)) (b := ⟨#[32]⟩) (c := S (X ++ nd.name ++ [32])) (S_append _ [32]) (by rw [S_sizeE]; simp; omega) W
   have r3 := fun W => add_asE (P := Tryz.prog) (a := S (X ++ nd.name ++ [32])) (b := S (showR nd.bs)) (c := S (X ++ nd.name ++ [32] ++ showR nd.bs)) (S_append _ _) (by rw [S_sizeE]; simp; omega) W
   have r4 := fun W => add_asE (P := Tryz.prog) (a := S (X ++ nd.name ++ [32] ++ showR nd.bs)) (b := ⟨#[10]⟩) (c := S (X ++ nd.name ++ [32] ++ showR nd.bs ++ [10])) (S_append _ [10]) (by rw [S_sizeE]; simp; omega) W
   have HNx : Hid (X ++ nd.name ++ [32] ++ showR nd.bs ++ [10] = (needs.take (j + 1)).flatMap needT) := by
    show _ = _
    rw [HTk2.out, List.flatMap_append, List.flatMap_cons, List.flatMap_nil, List.append_nil, ← HXe.out]
    unfold needT; simp
   generalize X ++ nd.name ++ [32] ++ showR nd.bs ++ [10] = Y at r4 HNx
   generalize S (X ++ nd.name ++ [32] ++ showR nd.bs) = A3 at r3 r4
   generalize S (X ++ nd.name ++ [32]) = A2 at r2 r3
   generalize S (X ++ nd.name) = A1 at r1 r2
   have hwj : IntKind.i64.wrap ((j : Int) + 1) = (j : Int) + 1 := by rw [IntKind.wrap_i64]; omega
   clear hbs hnl hbz hrok hrl hne hmem hb
   go_wp2_with fail
   refine HSh.out.mono ?_
   rintro e w3 ⟨rfl, hb3⟩
   have HB3 := Lib.hid (below_then HB.out hb3)
   have d0 := cell_on c0 hb3
   clear hb3 c0 c1
   go_wp2_with fail
   go_roundw
   case rel => exact ⟨j + 1, Y, hlt, by go_num, rfl, HNx.out, HB3.out⟩
   case measure => simp [intOf]; omega
  ·have qj : decide ((j : Int) < k) = false := decide_eq_false (by have := HK.out.1; omega)
   have qj2 : ¬ (j : Int) < k := by have := HK.out.1; omega
   have HX2 : Hid (X = (needs.take (m + 1)).flatMap needT) := by show _ = _; rw [HXe.out, show j = m + 1 by omega]
   obtain ⟨bn, qn, rfl, hbn, c0, _⟩ := HX.out.2.at' hb hml
   have hnl := (HN.out.2 _ (List.getElem_mem hml)).2.1
   obtain ⟨nl, hnm⟩ : ∃ s, needs[m].1.name = s := ⟨_, rfl⟩
   rw [hnm] at c0 hnl
   have HNm := Lib.hid hnm
   have r1 := fun W => add_asE (P := Tryz.prog) (a := S X) (b := ⟨#[111, 102, 32]⟩) (c := S (X ++ [111, 102, 32])) (S_append _ [111, 102, 32]) (by rw [S_sizeE]; simp; omega) W
   have r2 := fun W => add_asE (P := Tryz.prog) (a := S (X ++ [111, 102, 32])) (b := S nl) (c := S (X ++ [111, 102, 32] ++ nl)) (S_append _ _) (by rw [S_sizeE]; simp; omega) W
   have r3 := fun W => add_asE (P := Tryz.prog) (a := S (X ++ [111, 102, 32] ++ nl)) (b := ⟨#[58]⟩) (c := S (X ++ [111, 102, 32] ++ nl ++ [58])) (S_append _ [58]) (by rw [S_sizeE]; simp; omega) W
   have HDl : Hid ((X ++ [111, 102, 32] ++ nl ++ [58]).length ≤ 100000) := by show _ ≤ _; simp; omega
   have HDe : Hid (X ++ [111, 102, 32] ++ nl ++ [58] = X ++ ([111, 102, 32] ++ (nl ++ [58]))) := by show _ = _; simp
   generalize X ++ [111, 102, 32] ++ nl ++ [58] = D at r3 HDl HDe
   generalize S (X ++ [111, 102, 32] ++ nl) = A2 at r2 r3
   generalize S (X ++ [111, 102, 32]) = A1 at r1 r2
   have HFd := Lib.hid (rfind_any pk ps (S nl) wr (HX.out.1.below hb (Nat.le_refl _)))
   obtain ⟨hof, hol, hoo⟩ := findP_offs HX.out.1 HO.out (S nl)
   obtain ⟨⟨fn, os, oa, oc⟩, hfp⟩ : ∃ x, findP ps (S nl) = x := ⟨_, rfl⟩
   rw [hfp] at hof hol hoo HFd
   simp only [DPack.ov] at hof hol hoo HFd
   have HFp := Lib.hid hfp
   have HOs := Lib.hid hof.1
   have HOo := Lib.hid hoo
   have hfd : ∀ W : World, (Instr.field 52 (.agg #[.string fn, .slice oa os.length oc]) 1).run Tryz.prog W = .ok (.slice oa os.length oc) W := fun _ => by kernel_rfl
   have hmk := fun W : World => run_make_row' (P := Tryz.prog) 80 4 (.bool false) 1 Tryz.underlying80 info_bool rfl .i64 .i64 os.length (by omega) (by omega) W
   clear hlt hnl hnm hof hoo hfp hb
   go_wp2_with fail
   refine HFd.out.mono ?_
   rintro e w3 ⟨rfl, hb3⟩
   have hb4 := below_then HB.out hb3
   have HDn : Hid (DnAt os.length w3.heap.size w (fun _ => false) (w3.alloc (.cells (madeCells #[.bool false] os.length) 4))) := ⟨World.rowIs_made w3 (.bool false) os.length 4, hb4.size, hb4.alloc (by have := hb4.size; omega) _⟩
   clear hb3 hb4 c0 r1 r2 r3
   go_wp2_with fail
   generalize w3.heap.size = g at *
   go_loopw [9, 16, 17, 18, 19, 20] (fun v n _ _ _ _ wr => RuRel os D g w v n wr) (fun _ n _ _ _ _ _ => os.length - (intOf n).toNat)
   case atStart => exact ⟨0, [], D, Nat.zero_le _, rfl, rfl, by simp, PickIs.nil _, Nat.le_refl _, .inl rfl, HDn.out⟩
   case round =>
    obtain ⟨n, L, Y, hn, rfl, rfl, hY, hPk, hLn, hLf, hDn⟩ := hrel
    have hFl := offsT_len hPk (by omega)
    have hYl : Y.length ≤ 110000 := by rw [hY, List.length_append]; have := HDl.out; omega
    have HY := Lib.hid hY
    have HPk := Lib.hid hPk
    have HLn := Lib.hid (⟨hLn, hLf⟩ : _ ∧ _)
    have HDn2 := Lib.hid hDn
    clear hY hFl hPk hLn hLf hDn
    by_cases hlt : n < os.length
    ·have n0 : (n : Int) < (os.length : Int) := by omega
     have n1 : decide (n < os.length) = true := decide_eq_true hlt
     go_wp2_with fail
     go_loopw [17, 18] (fun b i wr => RvRel os L g w b i wr) (fun _ i _ => os.length - (intOf i).toNat)
     case atStart => exact ⟨0, -1, Nat.zero_le _, rfl, rfl, BestD.zero _ _, HDn2.out⟩
     case round =>
      obtain ⟨i, c, hi, rfl, rfl, hBs, hD⟩ := hrel
      have HBs := Lib.hid hBs
      have HD := Lib.hid hD
      clear hBs hD
      by_cases hil : i < os.length
      ·have i0 : (0 : Int) ≤ (i : Int) := by omega
       have i1 : (i : Int) < (os.length : Int) := by omega
       have i2 : decide (i < os.length) = true := decide_eq_true hil
       have hwi : IntKind.i64.wrap ((i : Int) + 1) = (i : Int) + 1 := by rw [IntKind.wrap_i64]; omega
       have r0 := HD.out.1.cell hil
       (try simp only at r0)
       have hzg := HD.out.1.lt
       obtain ⟨d, hd⟩ : ∃ d, doneD L i = d := ⟨_, rfl⟩
       rw [hd] at r0
       have HDd := Lib.hid hd
       obtain ⟨bo, oo, rfl, hbo, e0, e1, e2, e3, _, _⟩ := HOs.out.at' HD.out.2.2 hil
       have HXi := Lib.hid (List.getElem?_eq_getElem hil)
       have hop := (HOo.out _ (List.getElem_mem hil)).1
       obtain ⟨x, hx⟩ : ∃ x, os[i] = x := ⟨_, rfl⟩
       rw [hx] at e0 e1 e2 e3 HXi hop
       have hV : VerA bo (oo + i * 6) x.v wr := ⟨e0, e1, e2, e3⟩
       have hdr := (Below.refl wr.heap.size wr).drew
       have HDr := Lib.hid (HD.out.on hdr)
       clear hx hd e0 e1 e2 e3
       cases d
       case true =>
        have hst : TxS g i true bo (oo + i * 6) x.v wr.drew wr.drew := ⟨cell_on r0 hdr, hV.on hdr, Below.refl _ _⟩
        have HNx := Lib.hid (HBs.out.pass (done_not HDd.out HPk.out))
        clear r0 hV hdr hop
        go_wp2_with fail
        refine wp_region_held_drew (S := (fun W => TxS g i true bo (oo + i * 6) x.v wr.drew W)) (by kernel_rfl) (hst) (fun hHeld => ?_)
        refine wpAnyH_take (i := 0) (v := ?_) rfl (by kernel_rfl) (by kernel_rfl) (by kernel_rfl) (fun _ _ _ h => h) (Or.inl ⟨by kernel_rfl, ?_⟩) hHeld ?_
        rotate_left
        ·(rintro W ⟨e0, ⟨e1, e2, e3, e4⟩, _⟩; go_simp; (try with_reducible rfl))
        (try simp only [Act.put, putL])
        refine wpAnyH_take (i := 1) (v := ?_) rfl (by kernel_rfl) (by kernel_rfl) (by kernel_rfl) (fun _ _ _ h => h) (Or.inl ⟨by kernel_rfl, ?_⟩) hHeld ?_
        rotate_left
        ·(rintro W ⟨e0, ⟨e1, e2, e3, e4⟩, _⟩; go_simp; (try with_reducible rfl))
        (try simp only [Act.put, putL])
        refine wpAnyH_take (i := 2) (v := ?_) rfl (by kernel_rfl) (by kernel_rfl) (by kernel_rfl) (fun _ _ _ h => h) (Or.inl ⟨by kernel_rfl, ?_⟩) hHeld ?_
        rotate_left
        ·(rintro W ⟨e0, ⟨e1, e2, e3, e4⟩, _⟩; go_simp; (try with_reducible rfl))
        (try simp only [Act.put, putL])
        refine wpAnyH_take (i := 3) (v := ?_) rfl (by kernel_rfl) (by kernel_rfl) (by kernel_rfl) (fun _ _ _ h => h) (Or.inl ⟨by kernel_rfl, ?_⟩) hHeld ?_
        rotate_left
        ·(rintro W ⟨e0, ⟨e1, e2, e3, e4⟩, _⟩; go_simp; (try with_reducible rfl))
        (try simp only [Act.put, putL])
        refine wpAnyH_take (i := 4) (v := ?_) rfl (by kernel_rfl) (by kernel_rfl) (by kernel_rfl) (fun _ _ _ h => h) (Or.inl ⟨by kernel_rfl, ?_⟩) hHeld ?_
        rotate_left
        ·(rintro W ⟨e0, ⟨e1, e2, e3, e4⟩, _⟩; go_simp; (try with_reducible rfl))
        (try simp only [Act.put, putL])
        refine wpAnyH_take (i := 5) (v := ?_) rfl (by kernel_rfl) (by kernel_rfl) (by kernel_rfl) (fun _ _ _ h => h) (Or.inl ⟨by kernel_rfl, ?_⟩) hHeld ?_
        rotate_left
        ·(rintro W ⟨e0, ⟨e1, e2, e3, e4⟩, _⟩; go_simp; (try with_reducible rfl))
        (try simp only [Act.put, putL])
        refine wpAnyH_take (i := 6) (v := undef) rfl (by kernel_rfl) (by kernel_rfl) (by kernel_rfl) (fun _ _ _ h => h) (Or.inr ⟨by kernel_rfl, rfl⟩) hHeld ?_
        (try simp only [Act.put, putL])
        refine wpAnyH_take (i := 7) (v := undef) rfl (by kernel_rfl) (by kernel_rfl) (by kernel_rfl) (fun _ _ _ h => h) (Or.inr ⟨by kernel_rfl, rfl⟩) hHeld ?_
        (try simp only [Act.put, putL])
        refine wpAnyH_take (i := 8) (v := undef) rfl (by kernel_rfl) (by kernel_rfl) (by kernel_rfl) (fun _ _ _ h => h) (Or.inr ⟨by kernel_rfl, rfl⟩) hHeld ?_
        (try simp only [Act.put, putL])
        refine wpAnyH_take (i := 9) (v := undef) rfl (by kernel_rfl) (by kernel_rfl) (by kernel_rfl) (fun _ _ _ h => h) (Or.inr ⟨by kernel_rfl, rfl⟩) hHeld ?_
        (try simp only [Act.put, putL])
        refine wpAnyH_take (i := 10) (v := undef) rfl (by kernel_rfl) (by kernel_rfl) (by kernel_rfl) (fun _ _ _ h => h) (Or.inr ⟨by kernel_rfl, rfl⟩) hHeld ?_
        (try simp only [Act.put, putL])
        refine wpAnyH_take (i := 11) (v := undef) rfl (by kernel_rfl) (by kernel_rfl) (by kernel_rfl) (fun _ _ _ h => h) (Or.inr ⟨by kernel_rfl, rfl⟩) hHeld ?_
        (try simp only [Act.put, putL])
        refine wpAnyH_take (i := 12) (v := undef) rfl (by kernel_rfl) (by kernel_rfl) (by kernel_rfl) (fun _ _ _ h => h) (Or.inr ⟨by kernel_rfl, rfl⟩) hHeld ?_
        (try simp only [Act.put, putL])
        refine wpAnyH_take (i := 13) (v := ?_) rfl (by kernel_rfl) (by kernel_rfl) (by kernel_rfl) (fun _ _ _ h => h) (Or.inl ⟨by kernel_rfl, ?_⟩) hHeld ?_
        rotate_left
        ·(rintro W ⟨e0, ⟨e1, e2, e3, e4⟩, _⟩; go_simp; (try with_reducible rfl))
        (try simp only [Act.put, putL])
        refine wpAnyH_take (i := 14) (v := ?_) rfl (by kernel_rfl) (by kernel_rfl) (by kernel_rfl) (fun _ _ _ h => h) (Or.inl ⟨by kernel_rfl, ?_⟩) hHeld ?_
        rotate_left
        ·(rintro W ⟨e0, ⟨e1, e2, e3, e4⟩, _⟩; go_simp; (try with_reducible rfl))
        (try simp only [Act.put, putL])
        refine wpAnyH_take (i := 15) (v := undef) rfl (by kernel_rfl) (by kernel_rfl) (by kernel_rfl) (fun _ _ _ h => h) (Or.inr ⟨by kernel_rfl, rfl⟩) hHeld ?_
        (try simp only [Act.put, putL])
        refine wpAnyH_take (i := 16) (v := undef) rfl (by kernel_rfl) (by kernel_rfl) (by kernel_rfl) (fun _ _ _ h => h) (Or.inr ⟨by kernel_rfl, rfl⟩) hHeld ?_
        (try simp only [Act.put, putL])
        refine wpAnyH_take (i := 17) (v := undef) rfl (by kernel_rfl) (by kernel_rfl) (by kernel_rfl) (fun _ _ _ h => h) (Or.inr ⟨by kernel_rfl, rfl⟩) hHeld ?_
        (try simp only [Act.put, putL])
        refine wpAnyH_take (i := 18) (v := undef) rfl (by kernel_rfl) (by kernel_rfl) (by kernel_rfl) (fun _ _ _ h => h) (Or.inr ⟨by kernel_rfl, rfl⟩) hHeld ?_
        (try simp only [Act.put, putL])
        refine wpAnyH_take (i := 19) (v := undef) rfl (by kernel_rfl) (by kernel_rfl) (by kernel_rfl) (fun _ _ _ h => h) (Or.inr ⟨by kernel_rfl, rfl⟩) hHeld ?_
        (try simp only [Act.put, putL])
        refine wpAnyH_take (i := 20) (v := undef) rfl (by kernel_rfl) (by kernel_rfl) (by kernel_rfl) (fun _ _ _ h => h) (Or.inr ⟨by kernel_rfl, rfl⟩) hHeld ?_
        (try simp only [Act.put, putL])
        refine wpAnyH_take (i := 21) (v := undef) rfl (by kernel_rfl) (by kernel_rfl) (by kernel_rfl) (fun _ _ _ h => h) (Or.inr ⟨by kernel_rfl, rfl⟩) hHeld ?_
        (try simp only [Act.put, putL])
        refine wpAnyH_take (i := 22) (v := undef) rfl (by kernel_rfl) (by kernel_rfl) (by kernel_rfl) (fun _ _ _ h => h) (Or.inr ⟨by kernel_rfl, rfl⟩) hHeld ?_
        (try simp only [Act.put, putL])
        refine wpAnyH_take (i := 23) (v := undef) rfl (by kernel_rfl) (by kernel_rfl) (by kernel_rfl) (fun _ _ _ h => h) (Or.inr ⟨by kernel_rfl, rfl⟩) hHeld ?_
        (try simp only [Act.put, putL])
        refine wpAnyH_take (i := 24) (v := undef) rfl (by kernel_rfl) (by kernel_rfl) (by kernel_rfl) (fun _ _ _ h => h) (Or.inr ⟨by kernel_rfl, rfl⟩) hHeld ?_
        (try simp only [Act.put, putL])
        refine wpAnyH_take (i := 25) (v := undef) rfl (by kernel_rfl) (by kernel_rfl) (by kernel_rfl) (fun _ _ _ h => h) (Or.inr ⟨by kernel_rfl, rfl⟩) hHeld ?_
        (try simp only [Act.put, putL])
        refine wpAnyH_take (i := 26) (v := undef) rfl (by kernel_rfl) (by kernel_rfl) (by kernel_rfl) (fun _ _ _ h => h) (Or.inr ⟨by kernel_rfl, rfl⟩) hHeld ?_
        (try simp only [Act.put, putL])
        refine wpAnyH_take (i := 27) (v := undef) rfl (by kernel_rfl) (by kernel_rfl) (by kernel_rfl) (fun _ _ _ h => h) (Or.inr ⟨by kernel_rfl, rfl⟩) hHeld ?_
        (try simp only [Act.put, putL])
        refine wpAnyH_take (i := 28) (v := undef) rfl (by kernel_rfl) (by kernel_rfl) (by kernel_rfl) (fun _ _ _ h => h) (Or.inr ⟨by kernel_rfl, rfl⟩) hHeld ?_
        (try simp only [Act.put, putL])
        refine wpAnyH_take (i := 29) (v := undef) rfl (by kernel_rfl) (by kernel_rfl) (by kernel_rfl) (fun _ _ _ h => h) (Or.inr ⟨by kernel_rfl, rfl⟩) hHeld ?_
        (try simp only [Act.put, putL])
        refine wpAnyH_take (i := 30) (v := undef) rfl (by kernel_rfl) (by kernel_rfl) (by kernel_rfl) (fun _ _ _ h => h) (Or.inr ⟨by kernel_rfl, rfl⟩) hHeld ?_
        (try simp only [Act.put, putL])
        refine wpAnyH_take (i := 31) (v := ?_) rfl (by kernel_rfl) (by kernel_rfl) (by kernel_rfl) (fun _ _ _ h => h) (Or.inl ⟨by kernel_rfl, ?_⟩) hHeld ?_
        rotate_left
        ·(rintro W ⟨e0, ⟨e1, e2, e3, e4⟩, _⟩; go_simp; (try with_reducible rfl))
        (try simp only [Act.put, putL])
        refine wpAnyH_done (by kernel_rfl) ?_ _
        have HDe2 := Lib.hid (HDr.out.on hHeld.2.2)
        clear hst hHeld
        go_wp2_with fail
        go_roundw
        case rel => exact ⟨i + 1, c, hil, by go_num, rfl, HNx.out, HDe2.out⟩
        case measure => simp [intOf]; omega
       have hst : TxS g i false bo (oo + i * 6) x.v wr.drew wr.drew := ⟨cell_on r0 hdr, hV.on hdr, Below.refl _ _⟩
       obtain ⟨q, hq⟩ : ∃ q, x.v.ok = q := ⟨_, rfl⟩
       cases q
       case false =>
        have HCk := Lib.hid (fun W => refCheckO_as x.v 40 (by rw [hq]; rfl) W (by omega))
        have HNx := Lib.hid (HBs.out.pass (fun y hc => by
         have h1 := hc.1
         rw [show ((y, i) : DOff × Nat).2 = i from rfl, HXi.out] at h1
         have h2 := hc.2.1
         rw [← Option.some.inj h1, hq] at h2
         cases h2))
        clear r0 hV hdr hop hq
        go_wp2_with fail
        refine wp_region_held_drew (S := (fun W => TxS g i false bo (oo + i * 6) x.v wr.drew W)) (by kernel_rfl) (hst) (fun hHeld => ?_)
        refine wpAnyH_take (i := 0) (v := ?_) rfl (by kernel_rfl) (by kernel_rfl) (by kernel_rfl) (fun _ _ _ h => h) (Or.inl ⟨by kernel_rfl, ?_⟩) hHeld ?_
        rotate_left
        ·(rintro W ⟨e0, ⟨e1, e2, e3, e4⟩, _⟩; go_simp; (try with_reducible rfl))
        (try simp only [Act.put, putL])
        refine wpAnyH_take (i := 1) (v := ?_) rfl (by kernel_rfl) (by kernel_rfl) (by kernel_rfl) (fun _ _ _ h => h) (Or.inl ⟨by kernel_rfl, ?_⟩) hHeld ?_
        rotate_left
        ·(rintro W ⟨e0, ⟨e1, e2, e3, e4⟩, _⟩; go_simp; (try with_reducible rfl))
        (try simp only [Act.put, putL])
        refine wpAnyH_take (i := 2) (v := ?_) rfl (by kernel_rfl) (by kernel_rfl) (by kernel_rfl) (fun _ _ _ h => h) (Or.inl ⟨by kernel_rfl, ?_⟩) hHeld ?_
        rotate_left
        ·(rintro W ⟨e0, ⟨e1, e2, e3, e4⟩, _⟩; go_simp; (try with_reducible rfl))
        (try simp only [Act.put, putL])
        refine wpAnyH_take (i := 3) (v := ?_) rfl (by kernel_rfl) (by kernel_rfl) (by kernel_rfl) (fun _ _ _ h => h) (Or.inl ⟨by kernel_rfl, ?_⟩) hHeld ?_
        rotate_left
        ·(rintro W ⟨e0, ⟨e1, e2, e3, e4⟩, _⟩; go_simp; (try with_reducible rfl))
        (try simp only [Act.put, putL])
        refine wpAnyH_take (i := 4) (v := ?_) rfl (by kernel_rfl) (by kernel_rfl) (by kernel_rfl) (fun _ _ _ h => h) (Or.inl ⟨by kernel_rfl, ?_⟩) hHeld ?_
        rotate_left
        ·(rintro W ⟨e0, ⟨e1, e2, e3, e4⟩, _⟩; go_simp; (try with_reducible rfl))
        (try simp only [Act.put, putL])
        refine wpAnyH_take (i := 5) (v := ?_) rfl (by kernel_rfl) (by kernel_rfl) (by kernel_rfl) (fun _ _ _ h => h) (Or.inl ⟨by kernel_rfl, ?_⟩) hHeld ?_
        rotate_left
        ·(rintro W ⟨e0, ⟨e1, e2, e3, e4⟩, _⟩; go_simp; (try with_reducible rfl))
        (try simp only [Act.put, putL])
        refine wpAnyH_take (i := 6) (v := ?_) rfl (by kernel_rfl) (by kernel_rfl) (by kernel_rfl) (fun _ _ _ h => h) (Or.inl ⟨by kernel_rfl, ?_⟩) hHeld ?_
        rotate_left
        ·(rintro W ⟨e0, ⟨e1, e2, e3, e4⟩, _⟩; go_simp; (try with_reducible rfl))
        (try simp only [Act.put, putL])
        refine wpAnyH_take (i := 7) (v := ?_) rfl (by kernel_rfl) (by kernel_rfl) (by kernel_rfl) (fun _ _ _ h => h) (Or.inl ⟨by kernel_rfl, ?_⟩) hHeld ?_
        rotate_left
        ·(rintro W ⟨e0, ⟨e1, e2, e3, e4⟩, _⟩; go_simp; (try with_reducible rfl))
        (try simp only [Act.put, putL])
        refine wpAnyH_take (i := 8) (v := ?_) rfl (by kernel_rfl) (by kernel_rfl) (by kernel_rfl) (fun _ _ _ h => h) (Or.inl ⟨by kernel_rfl, ?_⟩) hHeld ?_
        rotate_left
        ·(rintro W ⟨e0, ⟨e1, e2, e3, e4⟩, _⟩; go_simp; (try with_reducible rfl))
        (try simp only [Act.put, putL])
        refine wpAnyH_take (i := 9) (v := ?_) rfl (by kernel_rfl) (by kernel_rfl) (by kernel_rfl) (fun _ _ _ h => h) (Or.inl ⟨by kernel_rfl, ?_⟩) hHeld ?_
        rotate_left
        ·(rintro W ⟨e0, ⟨e1, e2, e3, e4⟩, _⟩; go_simp; (try with_reducible rfl))
        (try simp only [Act.put, putL])
        refine wpAnyH_take (i := 10) (v := ?_) rfl (by kernel_rfl) (by kernel_rfl) (by kernel_rfl) (fun _ _ _ h => h) (Or.inl ⟨by kernel_rfl, ?_⟩) hHeld ?_
        rotate_left
        ·(rintro W ⟨e0, ⟨e1, e2, e3, e4⟩, _⟩; go_simp; (try with_reducible rfl))
        (try simp only [Act.put, putL])
        refine wpAnyH_ready (rs := [11]) (by kernel_rfl) (by simp) ?_
        refine AllReadyH.cons rfl (fun K hK => ?_) AllReadyH.nil
        go_simp
        refine (HCk.out _).mono ?_
        rintro e w12 ⟨rfl, hk12⟩
        refine hK.out _ _ (hHeld.on hk12) (fun hHeld => ?_)
        clear hK K
        (try simp only [Act.put, putL])
        refine wpAnyH_take (i := 12) (v := ?_) rfl (by kernel_rfl) (by kernel_rfl) (by kernel_rfl) (fun _ _ _ h => h) (Or.inl ⟨by kernel_rfl, ?_⟩) hHeld ?_
        rotate_left
        ·(rintro W ⟨e0, ⟨e1, e2, e3, e4⟩, _⟩; go_simp; (try with_reducible rfl))
        (try simp only [Act.put, putL])
        refine wpAnyH_take (i := 13) (v := ?_) rfl (by kernel_rfl) (by kernel_rfl) (by kernel_rfl) (fun _ _ _ h => h) (Or.inl ⟨by kernel_rfl, ?_⟩) hHeld ?_
        rotate_left
        ·(rintro W ⟨e0, ⟨e1, e2, e3, e4⟩, _⟩; go_simp; (try with_reducible rfl))
        (try simp only [Act.put, putL])
        refine wpAnyH_take (i := 14) (v := ?_) rfl (by kernel_rfl) (by kernel_rfl) (by kernel_rfl) (fun _ _ _ h => h) (Or.inl ⟨by kernel_rfl, ?_⟩) hHeld ?_
        rotate_left
        ·(rintro W ⟨e0, ⟨e1, e2, e3, e4⟩, _⟩; go_simp; (try with_reducible rfl))
        (try simp only [Act.put, putL])
        refine wpAnyH_take (i := 15) (v := undef) rfl (by kernel_rfl) (by kernel_rfl) (by kernel_rfl) (fun _ _ _ h => h) (Or.inr ⟨by kernel_rfl, rfl⟩) hHeld ?_
        (try simp only [Act.put, putL])
        refine wpAnyH_take (i := 16) (v := undef) rfl (by kernel_rfl) (by kernel_rfl) (by kernel_rfl) (fun _ _ _ h => h) (Or.inr ⟨by kernel_rfl, rfl⟩) hHeld ?_
        (try simp only [Act.put, putL])
        refine wpAnyH_take (i := 17) (v := undef) rfl (by kernel_rfl) (by kernel_rfl) (by kernel_rfl) (fun _ _ _ h => h) (Or.inr ⟨by kernel_rfl, rfl⟩) hHeld ?_
        (try simp only [Act.put, putL])
        refine wpAnyH_take (i := 18) (v := undef) rfl (by kernel_rfl) (by kernel_rfl) (by kernel_rfl) (fun _ _ _ h => h) (Or.inr ⟨by kernel_rfl, rfl⟩) hHeld ?_
        (try simp only [Act.put, putL])
        refine wpAnyH_take (i := 19) (v := undef) rfl (by kernel_rfl) (by kernel_rfl) (by kernel_rfl) (fun _ _ _ h => h) (Or.inr ⟨by kernel_rfl, rfl⟩) hHeld ?_
        (try simp only [Act.put, putL])
        refine wpAnyH_take (i := 20) (v := undef) rfl (by kernel_rfl) (by kernel_rfl) (by kernel_rfl) (fun _ _ _ h => h) (Or.inr ⟨by kernel_rfl, rfl⟩) hHeld ?_
        (try simp only [Act.put, putL])
        refine wpAnyH_take (i := 21) (v := undef) rfl (by kernel_rfl) (by kernel_rfl) (by kernel_rfl) (fun _ _ _ h => h) (Or.inr ⟨by kernel_rfl, rfl⟩) hHeld ?_
        (try simp only [Act.put, putL])
        refine wpAnyH_take (i := 22) (v := undef) rfl (by kernel_rfl) (by kernel_rfl) (by kernel_rfl) (fun _ _ _ h => h) (Or.inr ⟨by kernel_rfl, rfl⟩) hHeld ?_
        (try simp only [Act.put, putL])
        refine wpAnyH_take (i := 23) (v := undef) rfl (by kernel_rfl) (by kernel_rfl) (by kernel_rfl) (fun _ _ _ h => h) (Or.inr ⟨by kernel_rfl, rfl⟩) hHeld ?_
        (try simp only [Act.put, putL])
        refine wpAnyH_take (i := 24) (v := undef) rfl (by kernel_rfl) (by kernel_rfl) (by kernel_rfl) (fun _ _ _ h => h) (Or.inr ⟨by kernel_rfl, rfl⟩) hHeld ?_
        (try simp only [Act.put, putL])
        refine wpAnyH_take (i := 25) (v := undef) rfl (by kernel_rfl) (by kernel_rfl) (by kernel_rfl) (fun _ _ _ h => h) (Or.inr ⟨by kernel_rfl, rfl⟩) hHeld ?_
        (try simp only [Act.put, putL])
        refine wpAnyH_take (i := 26) (v := undef) rfl (by kernel_rfl) (by kernel_rfl) (by kernel_rfl) (fun _ _ _ h => h) (Or.inr ⟨by kernel_rfl, rfl⟩) hHeld ?_
        (try simp only [Act.put, putL])
        refine wpAnyH_take (i := 27) (v := undef) rfl (by kernel_rfl) (by kernel_rfl) (by kernel_rfl) (fun _ _ _ h => h) (Or.inr ⟨by kernel_rfl, rfl⟩) hHeld ?_
        (try simp only [Act.put, putL])
        refine wpAnyH_take (i := 28) (v := undef) rfl (by kernel_rfl) (by kernel_rfl) (by kernel_rfl) (fun _ _ _ h => h) (Or.inr ⟨by kernel_rfl, rfl⟩) hHeld ?_
        (try simp only [Act.put, putL])
        refine wpAnyH_take (i := 29) (v := undef) rfl (by kernel_rfl) (by kernel_rfl) (by kernel_rfl) (fun _ _ _ h => h) (Or.inr ⟨by kernel_rfl, rfl⟩) hHeld ?_
        (try simp only [Act.put, putL])
        refine wpAnyH_take (i := 30) (v := undef) rfl (by kernel_rfl) (by kernel_rfl) (by kernel_rfl) (fun _ _ _ h => h) (Or.inr ⟨by kernel_rfl, rfl⟩) hHeld ?_
        (try simp only [Act.put, putL])
        refine wpAnyH_take (i := 31) (v := ?_) rfl (by kernel_rfl) (by kernel_rfl) (by kernel_rfl) (fun _ _ _ h => h) (Or.inl ⟨by kernel_rfl, ?_⟩) hHeld ?_
        rotate_left
        ·(rintro W ⟨e0, ⟨e1, e2, e3, e4⟩, _⟩; go_simp; (try with_reducible rfl))
        (try simp only [Act.put, putL])
        refine wpAnyH_done (by kernel_rfl) ?_ _
        have HDe2 := Lib.hid (HDr.out.on hHeld.2.2)
        clear hst hHeld
        go_wp2_with fail
        go_roundw
        case rel => exact ⟨i + 1, c, hil, by go_num, rfl, HNx.out, HDe2.out⟩
        case measure => simp [intOf]; omega
       have HCk := Lib.hid (fun W => refCheckO_as x.v 0 (by rw [hq]; rfl) W (by omega))
       have HCd := Lib.hid ((done_cand HPk.out HXi.out hq).1 HDd.out)
       rcases HBs.out.form with hc1 | ⟨b, hc1, hbi⟩
       ·subst hc1
        have HNx := Lib.hid (HBs.out.start (by decide) HCd.out)
        clear r0 hV hdr hop hq
        go_wp2_with fail
        refine wp_region_held_drew (S := (fun W => TxS g i false bo (oo + i * 6) x.v wr.drew W)) (by kernel_rfl) (hst) (fun hHeld => ?_)
        refine wpAnyH_take (i := 0) (v := ?_) rfl (by kernel_rfl) (by kernel_rfl) (by kernel_rfl) (fun _ _ _ h => h) (Or.inl ⟨by kernel_rfl, ?_⟩) hHeld ?_
        rotate_left
        ·(rintro W ⟨e0, ⟨e1, e2, e3, e4⟩, _⟩; go_simp; (try with_reducible rfl))
        (try simp only [Act.put, putL])
        refine wpAnyH_take (i := 1) (v := ?_) rfl (by kernel_rfl) (by kernel_rfl) (by kernel_rfl) (fun _ _ _ h => h) (Or.inl ⟨by kernel_rfl, ?_⟩) hHeld ?_
        rotate_left
        ·(rintro W ⟨e0, ⟨e1, e2, e3, e4⟩, _⟩; go_simp; (try with_reducible rfl))
        (try simp only [Act.put, putL])
        refine wpAnyH_take (i := 2) (v := ?_) rfl (by kernel_rfl) (by kernel_rfl) (by kernel_rfl) (fun _ _ _ h => h) (Or.inl ⟨by kernel_rfl, ?_⟩) hHeld ?_
        rotate_left
        ·(rintro W ⟨e0, ⟨e1, e2, e3, e4⟩, _⟩; go_simp; (try with_reducible rfl))
        (try simp only [Act.put, putL])
        refine wpAnyH_take (i := 3) (v := ?_) rfl (by kernel_rfl) (by kernel_rfl) (by kernel_rfl) (fun _ _ _ h => h) (Or.inl ⟨by kernel_rfl, ?_⟩) hHeld ?_
        rotate_left
        ·(rintro W ⟨e0, ⟨e1, e2, e3, e4⟩, _⟩; go_simp; (try with_reducible rfl))
        (try simp only [Act.put, putL])
        refine wpAnyH_take (i := 4) (v := ?_) rfl (by kernel_rfl) (by kernel_rfl) (by kernel_rfl) (fun _ _ _ h => h) (Or.inl ⟨by kernel_rfl, ?_⟩) hHeld ?_
        rotate_left
        ·(rintro W ⟨e0, ⟨e1, e2, e3, e4⟩, _⟩; go_simp; (try with_reducible rfl))
        (try simp only [Act.put, putL])
        refine wpAnyH_take (i := 5) (v := ?_) rfl (by kernel_rfl) (by kernel_rfl) (by kernel_rfl) (fun _ _ _ h => h) (Or.inl ⟨by kernel_rfl, ?_⟩) hHeld ?_
        rotate_left
        ·(rintro W ⟨e0, ⟨e1, e2, e3, e4⟩, _⟩; go_simp; (try with_reducible rfl))
        (try simp only [Act.put, putL])
        refine wpAnyH_take (i := 6) (v := ?_) rfl (by kernel_rfl) (by kernel_rfl) (by kernel_rfl) (fun _ _ _ h => h) (Or.inl ⟨by kernel_rfl, ?_⟩) hHeld ?_
        rotate_left
        ·(rintro W ⟨e0, ⟨e1, e2, e3, e4⟩, _⟩; go_simp; (try with_reducible rfl))
        (try simp only [Act.put, putL])
        refine wpAnyH_take (i := 7) (v := ?_) rfl (by kernel_rfl) (by kernel_rfl) (by kernel_rfl) (fun _ _ _ h => h) (Or.inl ⟨by kernel_rfl, ?_⟩) hHeld ?_
        rotate_left
        ·(rintro W ⟨e0, ⟨e1, e2, e3, e4⟩, _⟩; go_simp; (try with_reducible rfl))
        (try simp only [Act.put, putL])
        refine wpAnyH_take (i := 8) (v := ?_) rfl (by kernel_rfl) (by kernel_rfl) (by kernel_rfl) (fun _ _ _ h => h) (Or.inl ⟨by kernel_rfl, ?_⟩) hHeld ?_
        rotate_left
        ·(rintro W ⟨e0, ⟨e1, e2, e3, e4⟩, _⟩; go_simp; (try with_reducible rfl))
        (try simp only [Act.put, putL])
        refine wpAnyH_take (i := 9) (v := ?_) rfl (by kernel_rfl) (by kernel_rfl) (by kernel_rfl) (fun _ _ _ h => h) (Or.inl ⟨by kernel_rfl, ?_⟩) hHeld ?_
        rotate_left
        ·(rintro W ⟨e0, ⟨e1, e2, e3, e4⟩, _⟩; go_simp; (try with_reducible rfl))
        (try simp only [Act.put, putL])
        refine wpAnyH_take (i := 10) (v := ?_) rfl (by kernel_rfl) (by kernel_rfl) (by kernel_rfl) (fun _ _ _ h => h) (Or.inl ⟨by kernel_rfl, ?_⟩) hHeld ?_
        rotate_left
        ·(rintro W ⟨e0, ⟨e1, e2, e3, e4⟩, _⟩; go_simp; (try with_reducible rfl))
        (try simp only [Act.put, putL])
        refine wpAnyH_ready (rs := [11]) (by kernel_rfl) (by simp) ?_
        refine AllReadyH.cons rfl (fun K hK => ?_) AllReadyH.nil
        go_simp
        refine (HCk.out _).mono ?_
        rintro e w12 ⟨rfl, hk12⟩
        refine hK.out _ _ (hHeld.on hk12) (fun hHeld => ?_)
        clear hK K
        (try simp only [Act.put, putL])
        refine wpAnyH_take (i := 12) (v := ?_) rfl (by kernel_rfl) (by kernel_rfl) (by kernel_rfl) (fun _ _ _ h => h) (Or.inl ⟨by kernel_rfl, ?_⟩) hHeld ?_
        rotate_left
        ·(rintro W ⟨e0, ⟨e1, e2, e3, e4⟩, _⟩; go_simp; (try with_reducible rfl))
        (try simp only [Act.put, putL])
        refine wpAnyH_take (i := 13) (v := ?_) rfl (by kernel_rfl) (by kernel_rfl) (by kernel_rfl) (fun _ _ _ h => h) (Or.inl ⟨by kernel_rfl, ?_⟩) hHeld ?_
        rotate_left
        ·(rintro W ⟨e0, ⟨e1, e2, e3, e4⟩, _⟩; go_simp; (try with_reducible rfl))
        (try simp only [Act.put, putL])
        refine wpAnyH_take (i := 14) (v := ?_) rfl (by kernel_rfl) (by kernel_rfl) (by kernel_rfl) (fun _ _ _ h => h) (Or.inl ⟨by kernel_rfl, ?_⟩) hHeld ?_
        rotate_left
        ·(rintro W ⟨e0, ⟨e1, e2, e3, e4⟩, _⟩; go_simp; (try with_reducible rfl))
        (try simp only [Act.put, putL])
        refine wpAnyH_take (i := 15) (v := ?_) rfl (by kernel_rfl) (by kernel_rfl) (by kernel_rfl) (fun _ _ _ h => h) (Or.inl ⟨by kernel_rfl, ?_⟩) hHeld ?_
        rotate_left
        ·(rintro W ⟨e0, ⟨e1, e2, e3, e4⟩, _⟩; go_simp; (try with_reducible rfl))
        (try simp only [Act.put, putL])
        refine wpAnyH_take (i := 16) (v := ?_) rfl (by kernel_rfl) (by kernel_rfl) (by kernel_rfl) (fun _ _ _ h => h) (Or.inl ⟨by kernel_rfl, ?_⟩) hHeld ?_
        rotate_left
        ·(rintro W ⟨e0, ⟨e1, e2, e3, e4⟩, _⟩; go_simp; (try with_reducible rfl))
        (try simp only [Act.put, putL])
        refine wpAnyH_take (i := 17) (v := ?_) rfl (by kernel_rfl) (by kernel_rfl) (by kernel_rfl) (fun _ _ _ h => h) (Or.inl ⟨by kernel_rfl, ?_⟩) hHeld ?_
        rotate_left
        ·(rintro W ⟨e0, ⟨e1, e2, e3, e4⟩, _⟩; go_simp; (try with_reducible rfl))
        (try simp only [Act.put, putL])
        refine wpAnyH_take (i := 18) (v := undef) rfl (by kernel_rfl) (by kernel_rfl) (by kernel_rfl) (fun _ _ _ h => h) (Or.inr ⟨by kernel_rfl, rfl⟩) hHeld ?_
        (try simp only [Act.put, putL])
        refine wpAnyH_take (i := 19) (v := undef) rfl (by kernel_rfl) (by kernel_rfl) (by kernel_rfl) (fun _ _ _ h => h) (Or.inr ⟨by kernel_rfl, rfl⟩) hHeld ?_
        (try simp only [Act.put, putL])
        refine wpAnyH_take (i := 20) (v := undef) rfl (by kernel_rfl) (by kernel_rfl) (by kernel_rfl) (fun _ _ _ h => h) (Or.inr ⟨by kernel_rfl, rfl⟩) hHeld ?_
        (try simp only [Act.put, putL])
        refine wpAnyH_take (i := 21) (v := undef) rfl (by kernel_rfl) (by kernel_rfl) (by kernel_rfl) (fun _ _ _ h => h) (Or.inr ⟨by kernel_rfl, rfl⟩) hHeld ?_
        (try simp only [Act.put, putL])
        refine wpAnyH_take (i := 22) (v := undef) rfl (by kernel_rfl) (by kernel_rfl) (by kernel_rfl) (fun _ _ _ h => h) (Or.inr ⟨by kernel_rfl, rfl⟩) hHeld ?_
        (try simp only [Act.put, putL])
        refine wpAnyH_take (i := 23) (v := undef) rfl (by kernel_rfl) (by kernel_rfl) (by kernel_rfl) (fun _ _ _ h => h) (Or.inr ⟨by kernel_rfl, rfl⟩) hHeld ?_
        (try simp only [Act.put, putL])
        refine wpAnyH_take (i := 24) (v := undef) rfl (by kernel_rfl) (by kernel_rfl) (by kernel_rfl) (fun _ _ _ h => h) (Or.inr ⟨by kernel_rfl, rfl⟩) hHeld ?_
        (try simp only [Act.put, putL])
        refine wpAnyH_take (i := 25) (v := undef) rfl (by kernel_rfl) (by kernel_rfl) (by kernel_rfl) (fun _ _ _ h => h) (Or.inr ⟨by kernel_rfl, rfl⟩) hHeld ?_
        (try simp only [Act.put, putL])
        refine wpAnyH_take (i := 26) (v := undef) rfl (by kernel_rfl) (by kernel_rfl) (by kernel_rfl) (fun _ _ _ h => h) (Or.inr ⟨by kernel_rfl, rfl⟩) hHeld ?_
        (try simp only [Act.put, putL])
        refine wpAnyH_take (i := 27) (v := undef) rfl (by kernel_rfl) (by kernel_rfl) (by kernel_rfl) (fun _ _ _ h => h) (Or.inr ⟨by kernel_rfl, rfl⟩) hHeld ?_
        (try simp only [Act.put, putL])
        refine wpAnyH_take (i := 28) (v := undef) rfl (by kernel_rfl) (by kernel_rfl) (by kernel_rfl) (fun _ _ _ h => h) (Or.inr ⟨by kernel_rfl, rfl⟩) hHeld ?_
        (try simp only [Act.put, putL])
        refine wpAnyH_take (i := 29) (v := undef) rfl (by kernel_rfl) (by kernel_rfl) (by kernel_rfl) (fun _ _ _ h => h) (Or.inr ⟨by kernel_rfl, rfl⟩) hHeld ?_
        (try simp only [Act.put, putL])
        refine wpAnyH_take (i := 30) (v := ?_) rfl (by kernel_rfl) (by kernel_rfl) (by kernel_rfl) (fun _ _ _ h => h) (Or.inl ⟨by kernel_rfl, ?_⟩) hHeld ?_
        rotate_left
        ·(rintro W ⟨e0, ⟨e1, e2, e3, e4⟩, _⟩; go_simp; (try with_reducible rfl))
        (try simp only [Act.put, putL])
        refine wpAnyH_take (i := 31) (v := ?_) rfl (by kernel_rfl) (by kernel_rfl) (by kernel_rfl) (fun _ _ _ h => h) (Or.inl ⟨by kernel_rfl, ?_⟩) hHeld ?_
        rotate_left
        ·(rintro W ⟨e0, ⟨e1, e2, e3, e4⟩, _⟩; go_simp; (try with_reducible rfl))
        (try simp only [Act.put, putL])
        refine wpAnyH_done (by kernel_rfl) ?_ _
        have HDe2 := Lib.hid (HDr.out.on hHeld.2.2)
        clear hst hHeld
        go_wp2_with fail
        go_roundw
        case rel => exact ⟨i + 1, (i : Int), hil, by go_num, rfl, HNx.out, HDe2.out⟩
        case measure => simp [intOf]; omega
       ·subst hc1
        have hbl : b < os.length := by omega
        have b0 : (0 : Int) ≤ (b : Int) := by omega
        have b1 : (b : Int) < (os.length : Int) := by omega
        have b2 : decide ((b : Int) < 0) = false := decide_eq_false (by omega)
        have b3 : ¬ (b : Int) < 0 := by omega
        obtain ⟨bo', oo', hbb, _, f0, f1, f2, f3, _, _⟩ := HOs.out.at' HD.out.2.2 hbl
        obtain ⟨rfl, rfl⟩ : bo = bo' ∧ oo = oo' := by injection hbb with h; injection h with h1 h2; exact ⟨h1, h2⟩
        have HZi := Lib.hid (List.getElem?_eq_getElem hbl)
        have hoz := (HOo.out _ (List.getElem_mem hbl)).1
        obtain ⟨z, hz⟩ : ∃ z, os[b] = z := ⟨_, rfl⟩
        rw [hz] at f0 f1 f2 f3 HZi hoz
        obtain ⟨cm, hcm⟩ : ∃ c, V4.cmp x.v z.v = c := ⟨_, rfl⟩
        have HCm := Lib.hid (fun W => refCmpQ_as x.v z.v cm hcm W (by omega) (by omega))
        have hnx := HBs.out.next HCd.out HZi.out
        rw [hcm] at hnx
        have HNx := Lib.hid hnx
        have hst2 : TxS g i false bo (oo + i * 6) x.v wr.drew wr.drew ∧ VerA bo (oo + b * 6) z.v wr.drew := ⟨hst, VerA.on ⟨f0, f1, f2, f3⟩ hdr⟩
        clear hst
        have hst := hst2
        by_cases hgt : 0 < cm
        ·have t0 : decide (0 < cm) = true := decide_eq_true hgt
         have HNy := Lib.hid (HNx.out.1 hgt)
         clear r0 hV hdr hop hq hbb f0 f1 f2 f3 hoz hz hcm hnx hst2 hgt
         go_wp2_with fail
         refine wp_region_held_drew (S := (fun W => TxS g i false bo (oo + i * 6) x.v wr.drew W ∧ VerA bo (oo + b * 6) z.v W)) (by kernel_rfl) (hst) (fun hHeld => ?_)
         refine wpAnyH_take (i := 0) (v := ?_) rfl (by kernel_rfl) (by kernel_rfl) (by kernel_rfl) (fun _ _ _ h => h) (Or.inl ⟨by kernel_rfl, ?_⟩) hHeld ?_
         rotate_left
         ·(rintro W ⟨⟨e0, ⟨e1, e2, e3, e4⟩, _⟩, ⟨e5, e6, e7, e8⟩⟩; go_simp; (try with_reducible rfl))
         (try simp only [Act.put, putL])
         refine wpAnyH_take (i := 1) (v := ?_) rfl (by kernel_rfl) (by kernel_rfl) (by kernel_rfl) (fun _ _ _ h => h) (Or.inl ⟨by kernel_rfl, ?_⟩) hHeld ?_
         rotate_left
         ·(rintro W ⟨⟨e0, ⟨e1, e2, e3, e4⟩, _⟩, ⟨e5, e6, e7, e8⟩⟩; go_simp; (try with_reducible rfl))
         (try simp only [Act.put, putL])
         refine wpAnyH_take (i := 2) (v := ?_) rfl (by kernel_rfl) (by kernel_rfl) (by kernel_rfl) (fun _ _ _ h => h) (Or.inl ⟨by kernel_rfl, ?_⟩) hHeld ?_
         rotate_left
         ·(rintro W ⟨⟨e0, ⟨e1, e2, e3, e4⟩, _⟩, ⟨e5, e6, e7, e8⟩⟩; go_simp; (try with_reducible rfl))
         (try simp only [Act.put, putL])
         refine wpAnyH_take (i := 3) (v := ?_) rfl (by kernel_rfl) (by kernel_rfl) (by kernel_rfl) (fun _ _ _ h => h) (Or.inl ⟨by kernel_rfl, ?_⟩) hHeld ?_
         rotate_left
         ·(rintro W ⟨⟨e0, ⟨e1, e2, e3, e4⟩, _⟩, ⟨e5, e6, e7, e8⟩⟩; go_simp; (try with_reducible rfl))
         (try simp only [Act.put, putL])
         refine wpAnyH_take (i := 4) (v := ?_) rfl (by kernel_rfl) (by kernel_rfl) (by kernel_rfl) (fun _ _ _ h => h) (Or.inl ⟨by kernel_rfl, ?_⟩) hHeld ?_
         rotate_left
         ·(rintro W ⟨⟨e0, ⟨e1, e2, e3, e4⟩, _⟩, ⟨e5, e6, e7, e8⟩⟩; go_simp; (try with_reducible rfl))
         (try simp only [Act.put, putL])
         refine wpAnyH_take (i := 5) (v := ?_) rfl (by kernel_rfl) (by kernel_rfl) (by kernel_rfl) (fun _ _ _ h => h) (Or.inl ⟨by kernel_rfl, ?_⟩) hHeld ?_
         rotate_left
         ·(rintro W ⟨⟨e0, ⟨e1, e2, e3, e4⟩, _⟩, ⟨e5, e6, e7, e8⟩⟩; go_simp; (try with_reducible rfl))
         (try simp only [Act.put, putL])
         refine wpAnyH_take (i := 6) (v := ?_) rfl (by kernel_rfl) (by kernel_rfl) (by kernel_rfl) (fun _ _ _ h => h) (Or.inl ⟨by kernel_rfl, ?_⟩) hHeld ?_
         rotate_left
         ·(rintro W ⟨⟨e0, ⟨e1, e2, e3, e4⟩, _⟩, ⟨e5, e6, e7, e8⟩⟩; go_simp; (try with_reducible rfl))
         (try simp only [Act.put, putL])
         refine wpAnyH_take (i := 7) (v := ?_) rfl (by kernel_rfl) (by kernel_rfl) (by kernel_rfl) (fun _ _ _ h => h) (Or.inl ⟨by kernel_rfl, ?_⟩) hHeld ?_
         rotate_left
         ·(rintro W ⟨⟨e0, ⟨e1, e2, e3, e4⟩, _⟩, ⟨e5, e6, e7, e8⟩⟩; go_simp; (try with_reducible rfl))
         (try simp only [Act.put, putL])
         refine wpAnyH_take (i := 8) (v := ?_) rfl (by kernel_rfl) (by kernel_rfl) (by kernel_rfl) (fun _ _ _ h => h) (Or.inl ⟨by kernel_rfl, ?_⟩) hHeld ?_
         rotate_left
         ·(rintro W ⟨⟨e0, ⟨e1, e2, e3, e4⟩, _⟩, ⟨e5, e6, e7, e8⟩⟩; go_simp; (try with_reducible rfl))
         (try simp only [Act.put, putL])
         refine wpAnyH_take (i := 9) (v := ?_) rfl (by kernel_rfl) (by kernel_rfl) (by kernel_rfl) (fun _ _ _ h => h) (Or.inl ⟨by kernel_rfl, ?_⟩) hHeld ?_
         rotate_left
         ·(rintro W ⟨⟨e0, ⟨e1, e2, e3, e4⟩, _⟩, ⟨e5, e6, e7, e8⟩⟩; go_simp; (try with_reducible rfl))
         (try simp only [Act.put, putL])
         refine wpAnyH_take (i := 10) (v := ?_) rfl (by kernel_rfl) (by kernel_rfl) (by kernel_rfl) (fun _ _ _ h => h) (Or.inl ⟨by kernel_rfl, ?_⟩) hHeld ?_
         rotate_left
         ·(rintro W ⟨⟨e0, ⟨e1, e2, e3, e4⟩, _⟩, ⟨e5, e6, e7, e8⟩⟩; go_simp; (try with_reducible rfl))
         (try simp only [Act.put, putL])
         refine wpAnyH_ready (rs := [11]) (by kernel_rfl) (by simp) ?_
         refine AllReadyH.cons rfl (fun K hK => ?_) AllReadyH.nil
         go_simp
         refine (HCk.out _).mono ?_
         rintro e w12 ⟨rfl, hk12⟩
         refine hK.out _ _ (⟨hHeld.1.on hk12, hHeld.2.on hk12⟩) (fun hHeld => ?_)
         clear hK K
         (try simp only [Act.put, putL])
         refine wpAnyH_take (i := 12) (v := ?_) rfl (by kernel_rfl) (by kernel_rfl) (by kernel_rfl) (fun _ _ _ h => h) (Or.inl ⟨by kernel_rfl, ?_⟩) hHeld ?_
         rotate_left
         ·(rintro W ⟨⟨e0, ⟨e1, e2, e3, e4⟩, _⟩, ⟨e5, e6, e7, e8⟩⟩; go_simp; (try with_reducible rfl))
         (try simp only [Act.put, putL])
         refine wpAnyH_take (i := 13) (v := ?_) rfl (by kernel_rfl) (by kernel_rfl) (by kernel_rfl) (fun _ _ _ h => h) (Or.inl ⟨by kernel_rfl, ?_⟩) hHeld ?_
         rotate_left
         ·(rintro W ⟨⟨e0, ⟨e1, e2, e3, e4⟩, _⟩, ⟨e5, e6, e7, e8⟩⟩; go_simp; (try with_reducible rfl))
         (try simp only [Act.put, putL])
         refine wpAnyH_take (i := 14) (v := ?_) rfl (by kernel_rfl) (by kernel_rfl) (by kernel_rfl) (fun _ _ _ h => h) (Or.inl ⟨by kernel_rfl, ?_⟩) hHeld ?_
         rotate_left
         ·(rintro W ⟨⟨e0, ⟨e1, e2, e3, e4⟩, _⟩, ⟨e5, e6, e7, e8⟩⟩; go_simp; (try with_reducible rfl))
         (try simp only [Act.put, putL])
         refine wpAnyH_take (i := 15) (v := ?_) rfl (by kernel_rfl) (by kernel_rfl) (by kernel_rfl) (fun _ _ _ h => h) (Or.inl ⟨by kernel_rfl, ?_⟩) hHeld ?_
         rotate_left
         ·(rintro W ⟨⟨e0, ⟨e1, e2, e3, e4⟩, _⟩, ⟨e5, e6, e7, e8⟩⟩; go_simp; (try with_reducible rfl))
         (try simp only [Act.put, putL])
         refine wpAnyH_take (i := 16) (v := ?_) rfl (by kernel_rfl) (by kernel_rfl) (by kernel_rfl) (fun _ _ _ h => h) (Or.inl ⟨by kernel_rfl, ?_⟩) hHeld ?_
         rotate_left
         ·(rintro W ⟨⟨e0, ⟨e1, e2, e3, e4⟩, _⟩, ⟨e5, e6, e7, e8⟩⟩; go_simp; (try with_reducible rfl))
         (try simp only [Act.put, putL])
         refine wpAnyH_take (i := 17) (v := ?_) rfl (by kernel_rfl) (by kernel_rfl) (by kernel_rfl) (fun _ _ _ h => h) (Or.inl ⟨by kernel_rfl, ?_⟩) hHeld ?_
         rotate_left
         ·(rintro W ⟨⟨e0, ⟨e1, e2, e3, e4⟩, _⟩, ⟨e5, e6, e7, e8⟩⟩; go_simp; (try with_reducible rfl))
         (try simp only [Act.put, putL])
         refine wpAnyH_take (i := 18) (v := ?_) rfl (by kernel_rfl) (by kernel_rfl) (by kernel_rfl) (fun _ _ _ h => h) (Or.inl ⟨by kernel_rfl, ?_⟩) hHeld ?_
         rotate_left
         ·(rintro W ⟨⟨e0, ⟨e1, e2, e3, e4⟩, _⟩, ⟨e5, e6, e7, e8⟩⟩; go_simp; (try with_reducible rfl))
         (try simp only [Act.put, putL])
         refine wpAnyH_take (i := 19) (v := ?_) rfl (by kernel_rfl) (by kernel_rfl) (by kernel_rfl) (fun _ _ _ h => h) (Or.inl ⟨by kernel_rfl, ?_⟩) hHeld ?_
         rotate_left
         ·(rintro W ⟨⟨e0, ⟨e1, e2, e3, e4⟩, _⟩, ⟨e5, e6, e7, e8⟩⟩; go_simp; (try with_reducible rfl))
         (try simp only [Act.put, putL])
         refine wpAnyH_take (i := 20) (v := ?_) rfl (by kernel_rfl) (by kernel_rfl) (by kernel_rfl) (fun _ _ _ h => h) (Or.inl ⟨by kernel_rfl, ?_⟩) hHeld ?_
         rotate_left
         ·(rintro W ⟨⟨e0, ⟨e1, e2, e3, e4⟩, _⟩, ⟨e5, e6, e7, e8⟩⟩; go_simp; (try with_reducible rfl))
         (try simp only [Act.put, putL])
         refine wpAnyH_take (i := 21) (v := ?_) rfl (by kernel_rfl) (by kernel_rfl) (by kernel_rfl) (fun _ _ _ h => h) (Or.inl ⟨by kernel_rfl, ?_⟩) hHeld ?_
         rotate_left
         ·(rintro W ⟨⟨e0, ⟨e1, e2, e3, e4⟩, _⟩, ⟨e5, e6, e7, e8⟩⟩; go_simp; (try with_reducible rfl))
         (try simp only [Act.put, putL])
         refine wpAnyH_take (i := 22) (v := ?_) rfl (by kernel_rfl) (by kernel_rfl) (by kernel_rfl) (fun _ _ _ h => h) (Or.inl ⟨by kernel_rfl, ?_⟩) hHeld ?_
         rotate_left
         ·(rintro W ⟨⟨e0, ⟨e1, e2, e3, e4⟩, _⟩, ⟨e5, e6, e7, e8⟩⟩; go_simp; (try with_reducible rfl))
         (try simp only [Act.put, putL])
         refine wpAnyH_take (i := 23) (v := ?_) rfl (by kernel_rfl) (by kernel_rfl) (by kernel_rfl) (fun _ _ _ h => h) (Or.inl ⟨by kernel_rfl, ?_⟩) hHeld ?_
         rotate_left
         ·(rintro W ⟨⟨e0, ⟨e1, e2, e3, e4⟩, _⟩, ⟨e5, e6, e7, e8⟩⟩; go_simp; (try with_reducible rfl))
         (try simp only [Act.put, putL])
         refine wpAnyH_take (i := 24) (v := ?_) rfl (by kernel_rfl) (by kernel_rfl) (by kernel_rfl) (fun _ _ _ h => h) (Or.inl ⟨by kernel_rfl, ?_⟩) hHeld ?_
         rotate_left
         ·(rintro W ⟨⟨e0, ⟨e1, e2, e3, e4⟩, _⟩, ⟨e5, e6, e7, e8⟩⟩; go_simp; (try with_reducible rfl))
         (try simp only [Act.put, putL])
         refine wpAnyH_take (i := 25) (v := ?_) rfl (by kernel_rfl) (by kernel_rfl) (by kernel_rfl) (fun _ _ _ h => h) (Or.inl ⟨by kernel_rfl, ?_⟩) hHeld ?_
         rotate_left
         ·(rintro W ⟨⟨e0, ⟨e1, e2, e3, e4⟩, _⟩, ⟨e5, e6, e7, e8⟩⟩; go_simp; (try with_reducible rfl))
         (try simp only [Act.put, putL])
         refine wpAnyH_take (i := 26) (v := ?_) rfl (by kernel_rfl) (by kernel_rfl) (by kernel_rfl) (fun _ _ _ h => h) (Or.inl ⟨by kernel_rfl, ?_⟩) hHeld ?_
         rotate_left
         ·(rintro W ⟨⟨e0, ⟨e1, e2, e3, e4⟩, _⟩, ⟨e5, e6, e7, e8⟩⟩; go_simp; (try with_reducible rfl))
         (try simp only [Act.put, putL])
         refine wpAnyH_take (i := 27) (v := ?_) rfl (by kernel_rfl) (by kernel_rfl) (by kernel_rfl) (fun _ _ _ h => h) (Or.inl ⟨by kernel_rfl, ?_⟩) hHeld ?_
         rotate_left
         ·(rintro W ⟨⟨e0, ⟨e1, e2, e3, e4⟩, _⟩, ⟨e5, e6, e7, e8⟩⟩; go_simp; (try with_reducible rfl))
         (try simp only [Act.put, putL])
         refine wpAnyH_ready (rs := [28]) (by kernel_rfl) (by simp) ?_
         refine AllReadyH.cons rfl (fun K hK => ?_) AllReadyH.nil
         go_simp
         refine (HCm.out _).mono ?_
         rintro e w13 ⟨rfl, hk13⟩
         refine hK.out _ _ (⟨hHeld.1.on hk13, hHeld.2.on hk13⟩) (fun hHeld => ?_)
         clear hK K
         (try simp only [Act.put, putL])
         refine wpAnyH_take (i := 29) (v := ?_) rfl (by kernel_rfl) (by kernel_rfl) (by kernel_rfl) (fun _ _ _ h => h) (Or.inl ⟨by kernel_rfl, ?_⟩) hHeld ?_
         rotate_left
         ·(rintro W ⟨⟨e0, ⟨e1, e2, e3, e4⟩, _⟩, ⟨e5, e6, e7, e8⟩⟩; go_simp; (try with_reducible rfl))
         (try simp only [Act.put, putL])
         refine wpAnyH_take (i := 30) (v := ?_) rfl (by kernel_rfl) (by kernel_rfl) (by kernel_rfl) (fun _ _ _ h => h) (Or.inl ⟨by kernel_rfl, ?_⟩) hHeld ?_
         rotate_left
         ·(rintro W ⟨⟨e0, ⟨e1, e2, e3, e4⟩, _⟩, ⟨e5, e6, e7, e8⟩⟩; go_simp; (try with_reducible rfl))
         (try simp only [Act.put, putL])
         refine wpAnyH_take (i := 31) (v := ?_) rfl (by kernel_rfl) (by kernel_rfl) (by kernel_rfl) (fun _ _ _ h => h) (Or.inl ⟨by kernel_rfl, ?_⟩) hHeld ?_
         rotate_left
         ·(rintro W ⟨⟨e0, ⟨e1, e2, e3, e4⟩, _⟩, ⟨e5, e6, e7, e8⟩⟩; go_simp; (try with_reducible rfl))
         (try simp only [Act.put, putL])
         refine wpAnyH_done (by kernel_rfl) ?_ _
         have HDe2 := Lib.hid (HDr.out.on hHeld.1.2.2)
         clear hst hHeld
         go_wp2_with fail
         go_roundw
         case rel => exact ⟨i + 1, (i : Int), hil, by go_num, rfl, HNy.out, HDe2.out⟩
         case measure => simp [intOf]; omega
        ·have t0 : decide (0 < cm) = false := decide_eq_false hgt
         have HNy := Lib.hid (HNx.out.2 hgt)
         clear r0 hV hdr hop hq hbb f0 f1 f2 f3 hoz hz hcm hnx hst2 hgt
         go_wp2_with fail
         refine wp_region_held_drew (S := (fun W => TxS g i false bo (oo + i * 6) x.v wr.drew W ∧ VerA bo (oo + b * 6) z.v W)) (by kernel_rfl) (hst) (fun hHeld => ?_)
         refine wpAnyH_take (i := 0) (v := ?_) rfl (by kernel_rfl) (by kernel_rfl) (by kernel_rfl) (fun _ _ _ h => h) (Or.inl ⟨by kernel_rfl, ?_⟩) hHeld ?_
         rotate_left
         ·(rintro W ⟨⟨e0, ⟨e1, e2, e3, e4⟩, _⟩, ⟨e5, e6, e7, e8⟩⟩; go_simp; (try with_reducible rfl))
         (try simp only [Act.put, putL])
         refine wpAnyH_take (i := 1) (v := ?_) rfl (by kernel_rfl) (by kernel_rfl) (by kernel_rfl) (fun _ _ _ h => h) (Or.inl ⟨by kernel_rfl, ?_⟩) hHeld ?_
         rotate_left
         ·(rintro W ⟨⟨e0, ⟨e1, e2, e3, e4⟩, _⟩, ⟨e5, e6, e7, e8⟩⟩; go_simp; (try with_reducible rfl))
         (try simp only [Act.put, putL])
         refine wpAnyH_take (i := 2) (v := ?_) rfl (by kernel_rfl) (by kernel_rfl) (by kernel_rfl) (fun _ _ _ h => h) (Or.inl ⟨by kernel_rfl, ?_⟩) hHeld ?_
         rotate_left
         ·(rintro W ⟨⟨e0, ⟨e1, e2, e3, e4⟩, _⟩, ⟨e5, e6, e7, e8⟩⟩; go_simp; (try with_reducible rfl))
         (try simp only [Act.put, putL])
         refine wpAnyH_take (i := 3) (v := ?_) rfl (by kernel_rfl) (by kernel_rfl) (by kernel_rfl) (fun _ _ _ h => h) (Or.inl ⟨by kernel_rfl, ?_⟩) hHeld ?_
         rotate_left
         ·(rintro W ⟨⟨e0, ⟨e1, e2, e3, e4⟩, _⟩, ⟨e5, e6, e7, e8⟩⟩; go_simp; (try with_reducible rfl))
         (try simp only [Act.put, putL])
         refine wpAnyH_take (i := 4) (v := ?_) rfl (by kernel_rfl) (by kernel_rfl) (by kernel_rfl) (fun _ _ _ h => h) (Or.inl ⟨by kernel_rfl, ?_⟩) hHeld ?_
         rotate_left
         ·(rintro W ⟨⟨e0, ⟨e1, e2, e3, e4⟩, _⟩, ⟨e5, e6, e7, e8⟩⟩; go_simp; (try with_reducible rfl))
         (try simp only [Act.put, putL])
         refine wpAnyH_take (i := 5) (v := ?_) rfl (by kernel_rfl) (by kernel_rfl) (by kernel_rfl) (fun _ _ _ h => h) (Or.inl ⟨by kernel_rfl, ?_⟩) hHeld ?_
         rotate_left
         ·(rintro W ⟨⟨e0, ⟨e1, e2, e3, e4⟩, _⟩, ⟨e5, e6, e7, e8⟩⟩; go_simp; (try with_reducible rfl))
         (try simp only [Act.put, putL])
         refine wpAnyH_take (i := 6) (v := ?_) rfl (by kernel_rfl) (by kernel_rfl) (by kernel_rfl) (fun _ _ _ h => h) (Or.inl ⟨by kernel_rfl, ?_⟩) hHeld ?_
         rotate_left
         ·(rintro W ⟨⟨e0, ⟨e1, e2, e3, e4⟩, _⟩, ⟨e5, e6, e7, e8⟩⟩; go_simp; (try with_reducible rfl))
         (try simp only [Act.put, putL])
         refine wpAnyH_take (i := 7) (v := ?_) rfl (by kernel_rfl) (by kernel_rfl) (by kernel_rfl) (fun _ _ _ h => h) (Or.inl ⟨by kernel_rfl, ?_⟩) hHeld ?_
         rotate_left
         ·(rintro W ⟨⟨e0, ⟨e1, e2, e3, e4⟩, _⟩, ⟨e5, e6, e7, e8⟩⟩; go_simp; (try with_reducible rfl))
         (try simp only [Act.put, putL])
         refine wpAnyH_take (i := 8) (v := ?_) rfl (by kernel_rfl) (by kernel_rfl) (by kernel_rfl) (fun _ _ _ h => h) (Or.inl ⟨by kernel_rfl, ?_⟩) hHeld ?_
         rotate_left
         ·(rintro W ⟨⟨e0, ⟨e1, e2, e3, e4⟩, _⟩, ⟨e5, e6, e7, e8⟩⟩; go_simp; (try with_reducible rfl))
         (try simp only [Act.put, putL])
         refine wpAnyH_take (i := 9) (v := ?_) rfl (by kernel_rfl) (by kernel_rfl) (by kernel_rfl) (fun _ _ _ h => h) (Or.inl ⟨by kernel_rfl, ?_⟩) hHeld ?_
         rotate_left
         ·(rintro W ⟨⟨e0, ⟨e1, e2, e3, e4⟩, _⟩, ⟨e5, e6, e7, e8⟩⟩; go_simp; (try with_reducible rfl))
         (try simp only [Act.put, putL])
         refine wpAnyH_take (i := 10) (v := ?_) rfl (by kernel_rfl) (by kernel_rfl) (by kernel_rfl) (fun _ _ _ h => h) (Or.inl ⟨by kernel_rfl, ?_⟩) hHeld ?_
         rotate_left
         ·(rintro W ⟨⟨e0, ⟨e1, e2, e3, e4⟩, _⟩, ⟨e5, e6, e7, e8⟩⟩; go_simp; (try with_reducible rfl))
         (try simp only [Act.put, putL])
         refine wpAnyH_ready (rs := [11]) (by kernel_rfl) (by simp) ?_
         refine AllReadyH.cons rfl (fun K hK => ?_) AllReadyH.nil
         go_simp
         refine (HCk.out _).mono ?_
         rintro e w12 ⟨rfl, hk12⟩
         refine hK.out _ _ (⟨hHeld.1.on hk12, hHeld.2.on hk12⟩) (fun hHeld => ?_)
         clear hK K
         (try simp only [Act.put, putL])
         refine wpAnyH_take (i := 12) (v := ?_) rfl (by kernel_rfl) (by kernel_rfl) (by kernel_rfl) (fun _ _ _ h => h) (Or.inl ⟨by kernel_rfl, ?_⟩) hHeld ?_
         rotate_left
         ·(rintro W ⟨⟨e0, ⟨e1, e2, e3, e4⟩, _⟩, ⟨e5, e6, e7, e8⟩⟩; go_simp; (try with_reducible rfl))
         (try simp only [Act.put, putL])
         refine wpAnyH_take (i := 13) (v := ?_) rfl (by kernel_rfl) (by kernel_rfl) (by kernel_rfl) (fun _ _ _ h => h) (Or.inl ⟨by kernel_rfl, ?_⟩) hHeld ?_
         rotate_left
         ·(rintro W ⟨⟨e0, ⟨e1, e2, e3, e4⟩, _⟩, ⟨e5, e6, e7, e8⟩⟩; go_simp; (try with_reducible rfl))
         (try simp only [Act.put, putL])
         refine wpAnyH_take (i := 14) (v := ?_) rfl (by kernel_rfl) (by kernel_rfl) (by kernel_rfl) (fun _ _ _ h => h) (Or.inl ⟨by kernel_rfl, ?_⟩) hHeld ?_
         rotate_left
         ·(rintro W ⟨⟨e0, ⟨e1, e2, e3, e4⟩, _⟩, ⟨e5, e6, e7, e8⟩⟩; go_simp; (try with_reducible rfl))
         (try simp only [Act.put, putL])
         refine wpAnyH_take (i := 15) (v := ?_) rfl (by kernel_rfl) (by kernel_rfl) (by kernel_rfl) (fun _ _ _ h => h) (Or.inl ⟨by kernel_rfl, ?_⟩) hHeld ?_
         rotate_left
         ·(rintro W ⟨⟨e0, ⟨e1, e2, e3, e4⟩, _⟩, ⟨e5, e6, e7, e8⟩⟩; go_simp; (try with_reducible rfl))
         (try simp only [Act.put, putL])
         refine wpAnyH_take (i := 16) (v := ?_) rfl (by kernel_rfl) (by kernel_rfl) (by kernel_rfl) (fun _ _ _ h => h) (Or.inl ⟨by kernel_rfl, ?_⟩) hHeld ?_
         rotate_left
         ·(rintro W ⟨⟨e0, ⟨e1, e2, e3, e4⟩, _⟩, ⟨e5, e6, e7, e8⟩⟩; go_simp; (try with_reducible rfl))
         (try simp only [Act.put, putL])
         refine wpAnyH_take (i := 17) (v := ?_) rfl (by kernel_rfl) (by kernel_rfl) (by kernel_rfl) (fun _ _ _ h => h) (Or.inl ⟨by kernel_rfl, ?_⟩) hHeld ?_
         rotate_left
         ·(rintro W ⟨⟨e0, ⟨e1, e2, e3, e4⟩, _⟩, ⟨e5, e6, e7, e8⟩⟩; go_simp; (try with_reducible rfl))
         (try simp only [Act.put, putL])
         refine wpAnyH_take (i := 18) (v := ?_) rfl (by kernel_rfl) (by kernel_rfl) (by kernel_rfl) (fun _ _ _ h => h) (Or.inl ⟨by kernel_rfl, ?_⟩) hHeld ?_
         rotate_left
         ·(rintro W ⟨⟨e0, ⟨e1, e2, e3, e4⟩, _⟩, ⟨e5, e6, e7, e8⟩⟩; go_simp; (try with_reducible rfl))
         (try simp only [Act.put, putL])
         refine wpAnyH_take (i := 19) (v := ?_) rfl (by kernel_rfl) (by kernel_rfl) (by kernel_rfl) (fun _ _ _ h => h) (Or.inl ⟨by kernel_rfl, ?_⟩) hHeld ?_
         rotate_left
         ·(rintro W ⟨⟨e0, ⟨e1, e2, e3, e4⟩, _⟩, ⟨e5, e6, e7, e8⟩⟩; go_simp; (try with_reducible rfl))
         (try simp only [Act.put, putL])
         refine wpAnyH_take (i := 20) (v := ?_) rfl (by kernel_rfl) (by kernel_rfl) (by kernel_rfl) (fun _ _ _ h => h) (Or.inl ⟨by kernel_rfl, ?_⟩) hHeld ?_
         rotate_left
         ·(rintro W ⟨⟨e0, ⟨e1, e2, e3, e4⟩, _⟩, ⟨e5, e6, e7, e8⟩⟩; go_simp; (try with_reducible rfl))
         (try simp only [Act.put, putL])
         refine wpAnyH_take (i := 21) (v := ?_) rfl (by kernel_rfl) (by kernel_rfl) (by kernel_rfl) (fun _ _ _ h => h) (Or.inl ⟨by kernel_rfl, ?_⟩) hHeld ?_
         rotate_left
         ·(rintro W ⟨⟨e0, ⟨e1, e2, e3, e4⟩, _⟩, ⟨e5, e6, e7, e8⟩⟩; go_simp; (try with_reducible rfl))
         (try simp only [Act.put, putL])
         refine wpAnyH_take (i := 22) (v := ?_) rfl (by kernel_rfl) (by kernel_rfl) (by kernel_rfl) (fun _ _ _ h => h) (Or.inl ⟨by kernel_rfl, ?_⟩) hHeld ?_
         rotate_left
         ·(rintro W ⟨⟨e0, ⟨e1, e2, e3, e4⟩, _⟩, ⟨e5, e6, e7, e8⟩⟩; go_simp; (try with_reducible rfl))
         (try simp only [Act.put, putL])
         refine wpAnyH_take (i := 23) (v := ?_) rfl (by kernel_rfl) (by kernel_rfl) (by kernel_rfl) (fun _ _ _ h => h) (Or.inl ⟨by kernel_rfl, ?_⟩) hHeld ?_
         rotate_left
         ·(rintro W ⟨⟨e0, ⟨e1, e2, e3, e4⟩, _⟩, ⟨e5, e6, e7, e8⟩⟩; go_simp; (try with_reducible rfl))
         (try simp only [Act.put, putL])
         refine wpAnyH_take (i := 24) (v := ?_) rfl (by kernel_rfl) (by kernel_rfl) (by kernel_rfl) (fun _ _ _ h => h) (Or.inl ⟨by kernel_rfl, ?_⟩) hHeld ?_
         rotate_left
         ·(rintro W ⟨⟨e0, ⟨e1, e2, e3, e4⟩, _⟩, ⟨e5, e6, e7, e8⟩⟩; go_simp; (try with_reducible rfl))
         (try simp only [Act.put, putL])
         refine wpAnyH_take (i := 25) (v := ?_) rfl (by kernel_rfl) (by kernel_rfl) (by kernel_rfl) (fun _ _ _ h => h) (Or.inl ⟨by kernel_rfl, ?_⟩) hHeld ?_
         rotate_left
         ·(rintro W ⟨⟨e0, ⟨e1, e2, e3, e4⟩, _⟩, ⟨e5, e6, e7, e8⟩⟩; go_simp; (try with_reducible rfl))
         (try simp only [Act.put, putL])
         refine wpAnyH_take (i := 26) (v := ?_) rfl (by kernel_rfl) (by kernel_rfl) (by kernel_rfl) (fun _ _ _ h => h) (Or.inl ⟨by kernel_rfl, ?_⟩) hHeld ?_
         rotate_left
         ·(rintro W ⟨⟨e0, ⟨e1, e2, e3, e4⟩, _⟩, ⟨e5, e6, e7, e8⟩⟩; go_simp; (try with_reducible rfl))
         (try simp only [Act.put, putL])
         refine wpAnyH_take (i := 27) (v := ?_) rfl (by kernel_rfl) (by kernel_rfl) (by kernel_rfl) (fun _ _ _ h => h) (Or.inl ⟨by kernel_rfl, ?_⟩) hHeld ?_
         rotate_left
         ·(rintro W ⟨⟨e0, ⟨e1, e2, e3, e4⟩, _⟩, ⟨e5, e6, e7, e8⟩⟩; go_simp; (try with_reducible rfl))
         (try simp only [Act.put, putL])
         refine wpAnyH_ready (rs := [28]) (by kernel_rfl) (by simp) ?_
         refine AllReadyH.cons rfl (fun K hK => ?_) AllReadyH.nil
         go_simp
         refine (HCm.out _).mono ?_
         rintro e w13 ⟨rfl, hk13⟩
         refine hK.out _ _ (⟨hHeld.1.on hk13, hHeld.2.on hk13⟩) (fun hHeld => ?_)
         clear hK K
         (try simp only [Act.put, putL])
         refine wpAnyH_take (i := 29) (v := ?_) rfl (by kernel_rfl) (by kernel_rfl) (by kernel_rfl) (fun _ _ _ h => h) (Or.inl ⟨by kernel_rfl, ?_⟩) hHeld ?_
         rotate_left
         ·(rintro W ⟨⟨e0, ⟨e1, e2, e3, e4⟩, _⟩, ⟨e5, e6, e7, e8⟩⟩; go_simp; (try with_reducible rfl))
         (try simp only [Act.put, putL])
         refine wpAnyH_take (i := 30) (v := ?_) rfl (by kernel_rfl) (by kernel_rfl) (by kernel_rfl) (fun _ _ _ h => h) (Or.inl ⟨by kernel_rfl, ?_⟩) hHeld ?_
         rotate_left
         ·(rintro W ⟨⟨e0, ⟨e1, e2, e3, e4⟩, _⟩, ⟨e5, e6, e7, e8⟩⟩; go_simp; (try with_reducible rfl))
         (try simp only [Act.put, putL])
         refine wpAnyH_take (i := 31) (v := ?_) rfl (by kernel_rfl) (by kernel_rfl) (by kernel_rfl) (fun _ _ _ h => h) (Or.inl ⟨by kernel_rfl, ?_⟩) hHeld ?_
         rotate_left
         ·(rintro W ⟨⟨e0, ⟨e1, e2, e3, e4⟩, _⟩, ⟨e5, e6, e7, e8⟩⟩; go_simp; (try with_reducible rfl))
         (try simp only [Act.put, putL])
         refine wpAnyH_done (by kernel_rfl) ?_ _
         have HDe2 := Lib.hid (HDr.out.on hHeld.1.2.2)
         clear hst hHeld
         go_wp2_with fail
         go_roundw
         case rel => exact ⟨i + 1, (b : Int), hil, by go_num, rfl, HNy.out, HDe2.out⟩
         case measure => simp [intOf]; omega
      ·have i2 : decide (i < os.length) = false := decide_eq_false hil
       have i3 : ¬ (i : Int) < (os.length : Int) := by omega
       obtain rfl : i = os.length := by omega
       have hwn : IntKind.i64.wrap ((n : Int) + 1) = (n : Int) + 1 := by rw [IntKind.wrap_i64]; omega
       rcases HBs.out.form with hc1 | ⟨b, hc1, hbl⟩
       ·subst hc1
        have HNo := Lib.hid (HBs.out.none (by decide))
        clear hil
        go_wp2_with fail
        go_roundw
        case rel => exact ⟨n + 1, L, Y, hlt, by go_num, rfl, HY.out, HPk.out, Nat.le_succ_of_le HLn.out.1, .inr HNo.out, HD.out⟩
        case measure => simp [intOf]; omega
       subst hc1
       have b0 : (0 : Int) ≤ (b : Int) := by omega
       have b1 : (b : Int) < (os.length : Int) := by omega
       have b2 : decide ((0 : Int) ≤ (b : Int)) = true := decide_eq_true b0
       obtain ⟨bo, oo, rfl, hbo, f0, f1, f2, f3, f4, _⟩ := HOs.out.at' HD.out.2.2 hbl
       have HZi := Lib.hid (List.getElem?_eq_getElem hbl)
       generalize (os[b]'hbl) = z at f0 f1 f2 f3 f4 HZi
       obtain ⟨hcd, hpk2⟩ := HBs.out.told HPk.out HZi.out
       have hzok : z.v.ok = true := hcd.2.1
       have hsl := verShow_len hzok
       have HSh := Lib.hid (showRQ_any z.v hzok (S z.v.show) rfl wr)
       have HPk2 := Lib.hid hpk2
       have HL2 : Hid ((L ++ [(z, b)]).length ≤ n + 1 ∧ ((L ++ [(z, b)]).length = n + 1 ∨ ∀ y, ¬ CandD os (L ++ [(z, b)]) y)) := by
        show _ ∧ _
        have h1 := HLn.out.1
        rw [List.length_append, List.length_singleton]
        refine ⟨by omega, .inl ?_⟩
        rcases HLn.out.2 with h | h
        ·omega
        ·exact absurd hcd (h _)
       have r1 := fun W => add_asE (P := Tryz.prog) (a := S Y) (b := ⟨#[32]⟩) (c := S (Y ++ [32])) (S_append _ [32]) (by rw [S_sizeE]; simp; omega) W
       have r2 := fun W => add_asE (P := Tryz.prog) (a := S (Y ++ [32])) (b := S z.v.show) (c := S (Y ++ [32] ++ z.v.show)) (S_append _ _) (by rw [S_sizeE]; simp; omega) W
       have r3 := fun W => add_asE (P := Tryz.prog) (a := S (Y ++ [32] ++ z.v.show)) (b := ⟨#[45]⟩) (c := S (Y ++ [32] ++ z.v.show ++ [45])) (S_append _ [45]) (by rw [S_sizeE]; simp; omega) W
       obtain ⟨zy, hzy⟩ : ∃ y, z.y = y := ⟨_, rfl⟩
       rw [hzy] at f4
       have HT0 : Hid (zy = false → Y ++ [32] ++ z.v.show = D ++ ((L ++ [(z, b)]).map Prod.fst).flatMap offT) := by
        show _ → _
        intro h
        rw [HY.out, List.map_append, List.flatMap_append]
        simp [offT, hzy, h]
       have HT1 : Hid (zy = true → Y ++ [32] ++ z.v.show ++ [45] = D ++ ((L ++ [(z, b)]).map Prod.fst).flatMap offT) := by
        show _ → _
        intro h
        rw [HY.out, List.map_append, List.flatMap_append]
        simp [offT, hzy, h]
       generalize Y ++ [32] ++ z.v.show ++ [45] = Y3 at r3 HT1
       generalize Y ++ [32] ++ z.v.show = Y2 at r2 r3 HT0
       generalize S (Y ++ [32]) = A1 at r1 r2
       have HDs := Lib.hid (fun W (h : Below wr.heap.size wr W) => (HD.out.on h).put b (f' := doneD (L ++ [(z, b)])) (done_snoc L z b))
       clear hcd hpk2 hzok hsl hil
       go_wp2_with fail
       refine HSh.out.mono ?_
       rintro e w5 ⟨rfl, hb5⟩
       have HDf := Lib.hid (HDs.out w5 hb5)
       have g4 := cell_on f4 hb5
       obtain ⟨r5, fr5, hz5⟩ : w5.cell? ⟨g, b, none⟩ = some (.bool (doneD L b)) ∧ w5.frozen? ⟨g, b, none⟩ = false ∧ g < w5.heap.size := ⟨(HD.out.on hb5).1.cell hbl, (HD.out.on hb5).1.frozen b, (HD.out.on hb5).1.lt⟩
       clear hb5 f0 f1 f2 f3 f4
       cases zy
       ·have HTx := Lib.hid (HT0.out rfl)
        go_wp2_with fail
        go_roundw
        case rel => exact ⟨n + 1, L ++ [(z, b)], Y2, hlt, by go_num, rfl, HTx.out, HPk2.out, HL2.out.1, HL2.out.2, HDf.out⟩
        case measure => simp [intOf]; omega
       ·have HTx := Lib.hid (HT1.out rfl)
        go_wp2_with fail
        go_roundw
        case rel => exact ⟨n + 1, L ++ [(z, b)], Y3, hlt, by go_num, rfl, HTx.out, HPk2.out, HL2.out.1, HL2.out.2, HDf.out⟩
        case measure => simp [intOf]; omega
    ·have n0 : ¬ (n : Int) < (os.length : Int) := by omega
     have n1 : decide (n < os.length) = false := decide_eq_false hlt
     have hnone : ∀ y, ¬ CandD os L y := by
      rcases HLn.out.2 with h | h
      ·exact HPk.out.full (by omega)
      ·exact h
     have HOut := Lib.hid (HPk.out.out hnone)
     have r1 := fun W => add_asE (P := Tryz.prog) (a := S Y) (b := ⟨#[10]⟩) (c := S (Y ++ [10])) (S_append _ [10]) (by rw [S_sizeE]; simp; omega) W
     have HTx : Hid (Y ++ [10] = textL needs (m + 1) (S nl) (L.map Prod.fst)) := by
      show _ = _
      rw [HY.out, HDe.out, HX2.out]
      unfold textL
      simp [S_data]
     have HF : Hid (TextPost needs ps k w (.returned (.tuple #[.string (S (Y ++ [10])), .int .i64 0])) wr) := by
      refine ⟨_, _, rfl, .inr (.inr ⟨HK.out.2.2, HEr.out, rfl, m, HK.out.2.1, HK.out.1, L.map Prod.fst, ?_, ?_⟩), HDn2.out.2.2⟩
      ·rw [HNm.out, HFp.out]; exact HOut.out
      ·rw [HTx.out, HNm.out]
     clear hlt hnone
     go_wp2_with fail
     go_ret2
     exact HF.out
end Go.Proofs.YtbgimpeklblcjaaGreatDoor
