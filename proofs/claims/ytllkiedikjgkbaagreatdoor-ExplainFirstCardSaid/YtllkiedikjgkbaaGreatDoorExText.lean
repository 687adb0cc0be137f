/- Explain: what is told of the first needs: the walk of Text. -/
import Derived.Test.YtllkiedikjgkbaaGreatDoorExCmp
import Derived.Test.YtllkiedikjgkbaaGreatDoorExIx
import Derived.Test.YtllkiedikjgkbaaGreatDoorExBl
import Derived.Test.YtllkiedikjgkbaaGreatDoorChCounts
namespace Go
open Go.RowKit
theorem okO_snoc {os : List DOff} {k : Nat} (hk : k < os.length) : okO (os.take (k + 1)) = if os[k].v.ok = true then okO (os.take k) ++ [os[k]] else okO (os.take k) := by
  unfold okO
  rw [List.take_succ_eq_append_getElem hk, List.filter_append, List.filter_cons, List.filter_nil]
  split <;> simp
theorem okO_len (os : List DOff) (k : Nat) : (okO (os.take k)).length ≤ os.length := by
  unfold okO
  exact Nat.le_trans (List.length_filter_le _ _) (by rw [List.length_take]; omega)
end Go
namespace Go.Proofs.YtllkiedikjgkbaaGreatDoor
open Go.RowKit Go.Maps
def TextPost (needs : List (Want × Value)) (ps : List DPack) (k : Int) (w : World) (e : Ending) (w' : World) : Prop :=
  ∃ T er, e = .returned (.tuple #[.string T, .int .i64 er]) ∧ TextIs needs ps k T er ∧ Below w.heap.size w w'
def TxRel (os : List DOff) (w2 : World) (v i : Value) (wr : World) : Prop :=
  ∃ j : Nat, j ≤ os.length ∧ i = .int .i64 (j : Int) ∧ wr.ownsRow w2.heap.size 39 6 v (okO (os.take j)).length ((okO (os.take j)).flatMap DOff.cells) ∧ Below w2.heap.size w2 wr
set_option maxRecDepth 100000 in
set_option maxHeartbeats 8000000 in
theorem exText_any (pk nv : Value) (ps : List DPack) (needs : List (Want × Value)) (k : Int) (w : World) (hp : Packs w pk ps) (hn : Wants w nv needs) (hcap : ∀ a n c, nv = .slice a n c → n ≤ c) (hE : EnvI w) (hN : NeedsP needs) (hO : ∀ p ∈ ps, p.os.length ≤ 100 ∧ ∀ o ∈ p.os, OffP o) :
    Calls Tryz.prog 37 #[pk, nv, .int .i64 k] w (TextPost needs ps k w) := by
  obtain ⟨hmx, na, nc, rfl⟩ := hn.len
  obtain ⟨_, a0, cap0, rfl⟩ := hp.len
  have hnc := hcap _ _ _ rfl
  have HX := Lib.hid (⟨hp, hn, hE⟩ : _ ∧ _ ∧ _)
  have HN := Lib.hid hN
  have HO := Lib.hid hO
  obtain ⟨er, her⟩ : ∃ e, needErr needs = e := ⟨_, rfl⟩
  have hCk := chCheck_any _ needs w hn hE.env (fun x hx b hb => by have := (hN.2 x hx).2.2 b hb; omega)
  rw [her] at hCk
  have HCk := Lib.hid hCk
  have HEr := Lib.hid her
  have HNc := Lib.hid hnc
  have hn30 : needs.length ≤ 30 := hN.1
  have HI := Lib.hid info_offer
  clear hp hn hcap hE hN hO hCk her hnc hmx
  by_cases g1 : k < 1
  · have q1 : decide (k < 1) = true := decide_eq_true g1
    have HF : Hid (TextPost needs ps k w (.returned (.tuple #[.string ⟨#[]⟩, .int .i64 2])) w) := ⟨_, _, rfl, .inl ⟨.inl g1, rfl, rfl⟩, Below.refl _ _⟩
    clear g1
    go_enter Tryz.func37, Tryz.ntmps37
    go_wp2_with fail
    go_ret2
    exact HF.out
  have q1 : decide (k < 1) = false := decide_eq_false g1
  by_cases g2 : (needs.length : Int) < k
  · have q2 : decide ((needs.length : Int) < k) = true := decide_eq_true g2
    have HF : Hid (TextPost needs ps k w (.returned (.tuple #[.string ⟨#[]⟩, .int .i64 2])) w) := ⟨_, _, rfl, .inl ⟨.inr g2, rfl, rfl⟩, Below.refl _ _⟩
    clear g1 g2
    go_enter Tryz.func37, Tryz.ntmps37
    go_wp2_with fail
    go_ret2
    exact HF.out
  have q2 : decide ((needs.length : Int) < k) = false := decide_eq_false g2
  obtain ⟨m, hmk⟩ : ∃ m : Nat, k = (m : Int) + 1 := ⟨(k - 1).toNat, by omega⟩
  have hml : m < needs.length := by omega
  have HK := Lib.hid (⟨hmk, hml, not_or.2 ⟨g1, g2⟩⟩ : _ ∧ _ ∧ _)
  have hkz : IntKind.i64.wrap (k - 1) = (m : Int) := by rw [IntKind.wrap_i64]; omega
  have m0 : (0 : Int) ≤ (m : Int) := by omega
  have m1 : (m : Int) < (needs.length : Int) := by omega
  have hk0 : 0 ≤ k := by omega
  have hkc : k ≤ (nc : Int) := by have := HNc.out; omega
  have HKc := Lib.hid (⟨hk0, hkc⟩ : _ ∧ _)
  clear g1 g2 hmk hk0 hkc
  go_enter Tryz.func37, Tryz.ntmps37
  go_wp2_with fail
  refine HCk.out.mono ?_
  rintro e w1 ⟨rfl, hb1⟩
  by_cases he : er = 0
  case neg =>
    have q0 : (er != 0) = true := bne_iff_ne.2 he
    have HF : Hid (TextPost needs ps k w (.returned (.tuple #[.string ⟨#[]⟩, .int .i64 er])) w1) := ⟨_, _, rfl, .inr (.inl ⟨HK.out.2.2, by rw [HEr.out]; exact he, rfl, HEr.out.symm⟩), hb1⟩
    clear he hb1
    go_wp2_with fail
    go_ret2
    exact HF.out
  subst he
  have HOk := Lib.hid (needErr_each HEr.out)
  obtain ⟨bn, qn, rfl, hbn, c0, c9⟩ := HX.out.2.1.at' hb1 hml
  obtain ⟨nm, hnm⟩ : ∃ s, S needs[m].1.name = s := ⟨_, rfl⟩
  rw [hnm] at c0
  have HNm := Lib.hid hnm
  have hx1 := Below.refl (w1.heap.size + 1) (w1.alloc (.cells #[.string nm] 9))
  have b0 := box_cells hx1 0
  simp only [List.getElem?_toArray, List.getElem?_cons_zero] at b0
  have hal := (Below.refl w1.heap.size w1).alloc (Nat.le_refl _) (.cells #[.string nm] 9)
  have HB1 := Lib.hid (below_then hb1 hal)
  have HIx := Lib.hid (textIx_any (.slice a0 ps.length cap0) ps w1.heap.size nm _ (HX.out.1.below HB1.out (Nat.le_refl _)) b0)
  have HLt := Lib.hid hb1.size
  clear hx1 hal hb1 hnm c9
  go_wp2_with fail
  refine HIx.out.mono ?_
  rintro e w2 ⟨r, rfl, hpk, hb2⟩
  have HB2 := Lib.hid (below_then HB1.out hb2)
  have HCn := Lib.hid (cell_on b0 hb2)
  obtain ⟨q, hq⟩ : ∃ q, decide (0 ≤ r) = q := ⟨_, rfl⟩
  have HPk := Lib.hid (⟨hpk, hq⟩ : _ ∧ _)
  clear hpk hb2 b0 c0
  go_upto_if 37 with fail
  go_cut [10] (fun v wx => wx.ownsRow w2.heap.size 39 6 v (okO (findP ps nm).os).length ((okO (findP ps nm).os).flatMap DOff.cells) ∧ Below w2.heap.size w2 wx)
  case first =>
    rcases HPk.out.1 with ⟨i, hi, rfl, hf⟩ | ⟨rfl, hf⟩
    · have hqt : q = true := by rw [← HPk.out.2]; exact decide_eq_true (by omega)
      subst hqt
      have i0 : (0 : Int) ≤ (i : Int) := by omega
      have i1 : (i : Int) < (ps.length : Int) := by omega
      obtain ⟨bx, ox, rfl, hbx, c0, c1⟩ := HX.out.1.at' HB2.out hi
      have HOs := Lib.hid (HX.out.1.2 _ (List.getElem_mem hi)).1
      have HOb := Lib.hid (HO.out _ (List.getElem_mem hi))
      generalize ps[i]'hi = p at c0 c1 HOs HOb hf
      obtain ⟨xn, xo, xa, xc⟩ := p
      simp only [DPack.ov] at c1 HOs HOb
      have HFp := Lib.hid hf
      have hxl : xo.length ≤ 9223372036854775807 := by have := HOb.out.1; omega
      clear c0 hf hq
      go_wp2_with fail
      go_loopw [10, 44] (fun v i wr => TxRel xo w2 v i wr) (fun _ i _ => xo.length - (intOf i).toNat)
      case atStart => exact ⟨0, Nat.zero_le _, rfl, World.ownsRow_nil _ _ _ _, Below.refl _ _⟩
      case round =>
        obtain ⟨j, hj, rfl, hown, hb⟩ := hrel
        have HOw := Lib.hid hown
        have HB := Lib.hid hb
        clear hown
        by_cases hlt : j < xo.length
        · have j0 : (0 : Int) ≤ (j : Int) := by omega
          have j1 : (j : Int) < (xo.length : Int) := by omega
          have hbw := below_then HB2.out hb
          obtain ⟨bo, oo, rfl, hbo, e0, e1, e2, e3, e4, e5⟩ := HOs.out.1.at' hbw hlt
          have HSn := Lib.hid (okO_snoc hlt)
          have hop := (HOb.out.2 _ (List.getElem_mem hlt)).1
          generalize xo[j]'hlt = o at e0 e1 e2 e3 e4 e5 HSn hop
          obtain ⟨ov, oy, ons, ona, onc⟩ := o
          simp only [DOff.nv] at e0 e1 e2 e3 e4 e5 hop
          have hwj : IntKind.i64.wrap ((j : Int) + 1) = (j : Int) + 1 := by have := HOb.out.1; rw [IntKind.wrap_i64]; omega
          have hx3 := Below.refl (wr.heap.size + 1) (wr.alloc (.cells #[.int .i64 ov.a, .int .i64 ov.b, .int .i64 ov.c, .string ov.p, .bool oy, .slice ona ons.length onc] 39))
          have hb3 := below_first hx3
          have d0 := box_cells hx3 0
          have d1 := box_cells hx3 1
          have d2 := box_cells hx3 2
          have d3 := box_cells hx3 3
          simp only [List.getElem?_toArray, List.getElem?_cons_zero, List.getElem?_cons_succ] at d0 d1 d2 d3
          have HX3 := Lib.hid hx3
          have HB3 := Lib.hid (below_then hb hb3)
          have HO3 := Lib.hid (owns_below HOw.out hb3)
          obtain ⟨ok, hok⟩ : ∃ b, ov.ok = b := ⟨_, rfl⟩
          rw [hok] at HSn
          have HCv := Lib.hid (checkO_as ov (if ok = true then 0 else 40) (by rw [hok]) _ (HX.out.2.2.env.below (below_then HB2.out HB3.out)) (by omega))
          clear hx3 hb3 hb hbw hok hop
          cases ok
          · go_wp2_with fail
            refine HCv.out.mono ?_
            rintro e w4 ⟨rfl, hb4⟩
            have HB4 := Lib.hid (below_then HB3.out hb4)
            have HO4 := Lib.hid (owns_below HO3.out hb4)
            clear hb4 d0 d1 d2 d3 e0 e1 e2 e3 e4 e5
            go_wp2_with fail
            go_roundw
            case rel => exact ⟨j + 1, hlt, by go_num, by rw [HSn.out]; exact HO4.out, HB4.out⟩
            case measure => simp [intOf]; omega
          · go_wp2_with fail
            refine HCv.out.mono ?_
            rintro e w4 ⟨rfl, hb4⟩
            have HB4 := Lib.hid (below_then HB3.out hb4)
            have HO4 := Lib.hid (owns_below HO3.out hb4)
            have hx4 := box_then HX3.out hb4
            have d0 := box_cells hx4 0
            have d1 := box_cells hx4 1
            have d2 := box_cells hx4 2
            have d3 := box_cells hx4 3
            have d4 := box_cells hx4 4
            have d5 := box_cells hx4 5
            simp only [List.getElem?_toArray, List.getElem?_cons_zero, List.getElem?_cons_succ] at d0 d1 d2 d3 d4 d5
            have hB3 := HB4.out.size
            have hol := okO_len xo j
            have hox := HOb.out.1
            obtain ⟨i0', hi', hz0, hz1, hz2⟩ : ∃ i, Tryz.prog.info? 39 = some i ∧ i.zero = some (.agg #[.int .i64 0, .int .i64 0, .int .i64 0, .string ⟨#[]⟩, .bool false, .slice none 0 0]) ∧ i.size = 6 ∧ i.bytes = 72 := by
              have := HI.out
              rcases h : Tryz.prog.info? 39 with _ | i
              · rw [h] at this; cases this
              · rw [h] at this
                simp only [Option.map_some, Option.some.injEq, Prod.mk.injEq] at this
                exact ⟨i, rfl, this.1, this.2.1, this.2.2⟩
            clear hx4 hb4 e0 e1 e2 e3 e4 e5
            go_wp2_with (at_builtin; go_must (refine wpList_append_own _ rfl _ _ 27 rfl w2.heap.size 39 i0' (.agg #[.int .i64 0, .int .i64 0, .int .i64 0, .string ⟨#[]⟩, .bool false, .slice none 0 0]) 6 72 Tryz.underlying27 hi' hz0 hz1 hz2 rfl (by decide) _ _ _ rfl (HO4.out.alloc _) ⟨_, 0, none⟩ 1 1 [.int .i64 ov.a, .int .i64 ov.b, .int .i64 ov.c, .string ov.p, .bool oy, .slice ona ons.length onc] rfl rfl ?c1 ?c2 ?c3 ?c4 ?c5 ?_))
            case c1 => exact row6_at _ _ (by simp) _ _ _ _ _ _ _
            case c2 => intro u hu; simp at hu; rcases hu with rfl | rfl | rfl | rfl | rfl | rfl <;> rfl
            case c3 => unfold maxLen; omega
            case c4 => omega
            case c5 => simp; omega
            intro v' w8 hown2 hg2 _
            have hb8 := below_grown (HB4.out.alloc hB3 _) (HO4.out.alloc _) hg2 (by simp; omega)
            obtain ⟨g2, cap2, hv2⟩ := Joins.ownsRow_form hown2 (by omega)
            subst hv2
            have HO8 := Lib.hid hown2
            have HB8 := Lib.hid hb8
            clear hg2 hown2 hb8
            go_wp2_with fail
            go_roundw
            case rel =>
              refine ⟨j + 1, hlt, by go_num, ?_, HB8.out⟩
              have h := HO8.out
              rw [HSn.out, if_pos trivial, List.flatMap_append, List.length_append]
              exact h
            case measure => simp [intOf]; omega
        · have q5 : decide (j < xo.length) = false := decide_eq_false hlt
          have hke : xo.take j = xo := List.take_of_length_le (by omega)
          have hown := HOw.out
          rw [hke] at hown
          have HOw2 := Lib.hid hown
          clear hlt hke hown hb
          go_wp2_with fail
          go_meet
          case rel => rw [HFp.out]; exact ⟨HOw2.out, HB.out⟩
    · have hqf : q = false := by rw [← HPk.out.2]; rfl
      subst hqf
      have HFp := Lib.hid hf
      clear hf hq
      go_wp2_with fail
      go_meet
      case rel => rw [HFp.out]; exact ⟨World.ownsRow_nil _ _ _ _, Below.refl _ _⟩
  case rest =>
    obtain ⟨hown, hbc⟩ := hcut
    have hsl : (okO (findP ps nm).os).length ≤ 100 ∧ ∀ o ∈ okO (findP ps nm).os, o.v.ok = true ∧ o.ok w ∧ o.v.p.size ≤ 300 := by
      constructor
      · refine Nat.le_trans (List.length_filter_le _ _) ?_
        rcases hfp : (ps.find? fun p => decide (p.name = nm)) with _ | p
        · unfold findP; rw [hfp]; simp
        · unfold findP; rw [hfp]; exact (HO.out p (List.mem_of_find?_eq_some hfp)).1
      · intro o ho
        obtain ⟨h1, h2⟩ := List.mem_filter.1 ho
        obtain ⟨p, hp, hop⟩ := findP_os h1
        exact ⟨h2, (HX.out.1.2 p hp).1.2 o hop, by have := ((HO.out p hp).2 o hop).1; omega⟩
    obtain ⟨sel, hse⟩ : ∃ s, okO (findP ps nm).os = s := ⟨_, rfl⟩
    rw [hse] at hown hsl
    have HSe := Lib.hid hse
    have HSl := Lib.hid hsl
    have HOw := Lib.hid hown
    have HBc := Lib.hid hbc
    clear hse hsl hown hbc
    go_upto_region 16 with fail
    go_cut [58] (fun _ wx => ∃ out, OutD sel out ∧ ORow wx u10 out ∧ Below w2.heap.size w2 wx)
    case first =>
      have hown := HOw.out
      rcases Joins.ownsRow_forms hown with ⟨hv, h0⟩ | ⟨g, cap, hv⟩
      · have hs0 : sel = [] := List.eq_nil_of_length_eq_zero h0
        subst hv hs0
        have HOr := Lib.hid (ORow.of_owns HOw.out)
        clear hown h0
        go_wp2_with fail
        refine (sortStable_nil _ _).mono ?_
        rintro e w3 ⟨rfl, rfl⟩
        go_wp2_with fail
        go_meet
        case rel => exact ⟨[], OutD.nil, HOr.out, HBc.out⟩
      · subst hv
        have hO6 : Own6 dsix w2.heap.size 39 g sel.length cap (seqOf sel) wc := by
          show World.ownsRow _ _ _ _ _ _ _
          rw [flat6_seq]; exact hown
        have hgood : ∀ t, t < sel.length → (seqOf sel t).1.v.p.size ≤ 300 := fun t ht => by
          rw [seq_get sel ht]
          exact (HSl.out.2 _ (List.getElem_mem ht)).2.2
        have hcm : Cmp6 dsix Tryz.prog 80 #[] (fun o => o.v.p.size ≤ 300) cmpD wc g := fun W hg x y hx hy =>
          cmpD_any x y W (HX.out.2.2.env.below (below_then HB2.out (below_grown HBc.out hown hg HBc.out.size))) hx hy
        have HS := Lib.hid (sortStable_any dsix w2.heap.size g sel.length cap wc (fun o => o.v.p.size ≤ 300) cmpD good_cmpD 80 #[] (fun args w => by go_simp) hcm
          (seqOf sel) wc hO6 (grown_same _ _) (by have := HSl.out.1; omega) dsix_one hgood (fun p q h _ => h))
        clear hO6 hgood hcm hown
        go_wp2_with fail
        refine HS.out.mono ?_
        rintro e w3 ⟨rfl, ⟨kk, hpm, hsr, hown2⟩, hg2⟩
        have HF : Hid (∃ out, OutD sel out ∧ ORow w3 (.slice (some ⟨g, 0, none⟩) sel.length cap) out ∧ Below w2.heap.size w2 w3) := by
          obtain ⟨out, h1, h2, h3⟩ := sorted_D rfl hpm hsr
          have hown3 : w3.ownsRow w2.heap.size 39 6 (.slice (some ⟨g, 0, none⟩) sel.length cap) sel.length (flat6 dsix sel.length kk) := hown2
          rw [h3] at hown3
          exact ⟨out, h1, ORow.of_owns hown3, below_grown HBc.out HOw.out hg2 HBc.out.size⟩
        clear hpm hsr hown2 hg2
        go_wp2_with fail
        go_meet
        case rel => exact HF.out
    case rest =>
      obtain ⟨out, hod, hor, hb6⟩ := hcut
      obtain ⟨va, vc, rfl⟩ := hor.len.2
      have HB6 := Lib.hid (below_then HB2.out hb6)
      have hoo : ∀ o ∈ out, o.v.ok = true ∧ o.ok w ∧ o.v.p.size ≤ 300 := fun o ho => HSl.out.2 o (hod.mem o ho)
      have hol : out.length ≤ 100 := by
        obtain ⟨l, h1, h2, h3⟩ := hod
        have hnd : l.Nodup := h2.imp fun h e => by subst e; exact Stab.lt_irrefl good_cmpD _ h
        have hsub : ∀ x ∈ l.map Prod.snd, x ∈ List.range sel.length := fun x hx => by
          obtain ⟨y, hy, rfl⟩ := List.mem_map.1 hx
          obtain ⟨i, hi, rfl⟩ := (h3 y).1 hy
          exact List.mem_range.2 hi
        have hnd2 : (l.map Prod.snd).Nodup := List.pairwise_map.2 (hnd.imp_of_mem fun {x y} hx hy h e => h (by
          obtain ⟨i, hi, rfl⟩ := (h3 x).1 hx
          obtain ⟨i', hi', rfl⟩ := (h3 y).1 hy
          simp only at e; subst e; rfl))
        have := nodup_len hnd2 hsub
        rw [List.length_map, List.length_range] at this
        rw [h1, List.length_map]; have := HSl.out.1; omega
      have HOd := Lib.hid hod
      have hof : Offs wc (.slice va out.length vc) out := ⟨hor, fun o ho => (hoo o ho).2.1.below HB6.out (Nat.le_refl _)⟩
      have hd := (Below.refl wc.heap.size wc).drew
      have HBd := Lib.hid (below_then HB6.out hd)
      have hws := wants_take (HX.out.2.1.below HBd.out (Nat.le_refl _)) HNc.out (show m + 1 ≤ needs.length by omega)
      obtain ⟨sv, hsv⟩ : ∃ v, sliced (some ⟨bn, qn, none⟩) 0 (m + 1) nc 2 = v := ⟨_, rfl⟩
      rw [hsv] at hws
      obtain ⟨_, sa, sc, rfl⟩ := hws.len
      have hst2 : ∀ W, (sizeOf (Tryz.prog.elem 24)).run Tryz.prog W = .ok 2 W := fun W => by go_simp
      have hsl : ∀ W, (Instr.slice 24 (.slice (some ⟨bn, qn, none⟩) needs.length nc) none (some (.int .i64 k)) none).run Tryz.prog W = .ok (.slice sa (needs.take (m + 1)).length sc) W := fun W => by
        have := run_slice_h (P := Tryz.prog) (w := W) (t := 24) (a := some ⟨bn, qn, none⟩) (len := needs.length) (cap := nc) rfl .i64 k HKc.out.1 HKc.out.2
        rw [this, hst2]
        have hk : k.toNat = m + 1 := by have := HK.out.1; omega
        simp [Result.andThen, hk, hsv]
      have hlA : ((needs.take (m + 1)).flatMap needT).length ≤ 100000 := by
        have := flat_len (f := needT) (m := 3000) (needs.take (m + 1)) (fun x hx => by
          have h := HOk.out x (List.mem_of_mem_take hx)
          exact needT_len (by have := (name_len h.1).2.1; omega) h.2)
        have h2 : (needs.take (m + 1)).length ≤ 30 := by rw [List.length_take]; omega
        omega
      have hlB : (out.flatMap offT).length ≤ 10000 := by
        have := flat_len (f := offT) (m := 100) out (fun o ho => offT_len (hoo o ho).1)
        omega
      have hln : nm.data.toList.length ≤ 24 := by
        have h := HOk.out _ (List.getElem_mem hml)
        rw [← HNm.out, S_data]
        exact (name_len h.1).2.1
      have HLN : Hid (∀ W, Below wc.drew.heap.size wc.drew W → Calls Tryz.prog 81 #[.func (.func 82) #[] #[], .slice sa (needs.take (m + 1)).length sc] W fun e w' => e = .returned (.string (S ((needs.take (m + 1)).flatMap needT))) ∧ Below W.heap.size W w') := fun W hW => by
        refine linesNeed_any (needs.take (m + 1)) sa sc W (hws.below hW (Nat.le_refl _)) (fun x hx W' hW' => ?_) (by omega) (by rw [List.length_take]; omega)
        have h := HOk.out x (List.mem_of_mem_take hx)
        have hb := HX.out.2.1.2 x (List.mem_of_mem_take hx)
        have hbb := (HN.out.2 x (List.mem_of_mem_take hx)).2.2
        obtain ⟨xn, xv⟩ := x
        obtain ⟨hbn, ra, rc, hrv⟩ := hb
        simp only at hrv hbn h hbb
        subst hrv
        have hWW := below_then HBd.out (below_then hW hW')
        exact need_any xn ra rc W' (hbn.below hWW (Nat.le_refl _)) (HX.out.2.2.below hWW) (by have := (name_len h.1).2.1; omega) h.2 (fun b hb => by have := hbb b hb; omega)
      have HLO : Hid (∀ W, Below wc.drew.heap.size wc.drew W → Calls Tryz.prog 83 #[.func (.func 84) #[] #[], .slice va out.length vc] W fun e w' => e = .returned (.string (S (out.flatMap offT))) ∧ Below W.heap.size W w') := fun W hW => by
        have hWd := below_then hd hW
        exact linesOffer_any out va vc W (hof.below hWd (Nat.le_refl _)) (fun o ho W' hW' => offer_any o W' (HX.out.2.2.below (below_then HB6.out (below_then hWd hW'))) (hoo o ho).1) (by omega) (by omega)
      have r1 := fun W => add_asE (P := Tryz.prog) (a := S ((needs.take (m + 1)).flatMap needT)) (b := ⟨#[111, 102, 32]⟩) (c := S ((needs.take (m + 1)).flatMap needT ++ [111, 102, 32])) (S_append _ [111, 102, 32]) (by rw [S_sizeE]; simp only [List.length_append, List.length_cons, List.length_nil]; omega) W
      have r2 := fun W => add_asE (P := Tryz.prog) (a := S ((needs.take (m + 1)).flatMap needT ++ [111, 102, 32])) (b := nm) (c := S ((needs.take (m + 1)).flatMap needT ++ [111, 102, 32] ++ nm.data.toList)) (by have h := S_append ((needs.take (m + 1)).flatMap needT ++ [111, 102, 32]) nm.data.toList; rw [S_of] at h; exact h) (by rw [S_sizeE]; simp only [List.length_append, List.length_cons, List.length_nil]; omega) W
      have r3 := fun W => add_asE (P := Tryz.prog) (a := S ((needs.take (m + 1)).flatMap needT ++ [111, 102, 32] ++ nm.data.toList)) (b := ⟨#[58]⟩) (c := S ((needs.take (m + 1)).flatMap needT ++ [111, 102, 32] ++ nm.data.toList ++ [58])) (S_append _ [58]) (by rw [S_sizeE]; simp only [List.length_append, List.length_cons, List.length_nil]; omega) W
      have r4 := fun W => add_asE (P := Tryz.prog) (a := S ((needs.take (m + 1)).flatMap needT ++ [111, 102, 32] ++ nm.data.toList ++ [58])) (b := S (out.flatMap offT)) (c := S ((needs.take (m + 1)).flatMap needT ++ [111, 102, 32] ++ nm.data.toList ++ [58] ++ out.flatMap offT)) (S_append _ _) (by rw [S_sizeE]; simp only [List.length_append, List.length_cons, List.length_nil]; omega) W
      have r5 := fun W => add_asE (P := Tryz.prog) (a := S ((needs.take (m + 1)).flatMap needT ++ [111, 102, 32] ++ nm.data.toList ++ [58] ++ out.flatMap offT)) (b := ⟨#[10]⟩) (c := S ((needs.take (m + 1)).flatMap needT ++ [111, 102, 32] ++ nm.data.toList ++ [58] ++ out.flatMap offT ++ [10])) (S_append _ [10]) (by rw [S_sizeE]; simp only [List.length_append, List.length_cons, List.length_nil]; omega) W
      have hT : (needs.take (m + 1)).flatMap needT ++ [111, 102, 32] ++ nm.data.toList ++ [58] ++ out.flatMap offT ++ [10] = textL needs (m + 1) nm out := by unfold textL; simp
      rw [hT] at r5
      have HTi : Hid (TextIs needs ps k (S (textL needs (m + 1) nm out)) 0) := .inr (.inr ⟨HK.out.2.2, HEr.out, rfl, m, HK.out.2.1, HK.out.1, out, by rw [HNm.out, HSe.out]; exact HOd.out, by rw [HNm.out]⟩)
      generalize S ((needs.take (m + 1)).flatMap needT ++ [111, 102, 32] ++ nm.data.toList ++ [58] ++ out.flatMap offT) = A4 at r4 r5
      generalize S ((needs.take (m + 1)).flatMap needT ++ [111, 102, 32] ++ nm.data.toList ++ [58]) = A3 at r3 r4
      generalize S ((needs.take (m + 1)).flatMap needT ++ [111, 102, 32] ++ nm.data.toList) = A2 at r2 r3
      generalize S ((needs.take (m + 1)).flatMap needT ++ [111, 102, 32]) = A1 at r1 r2
      generalize S ((needs.take (m + 1)).flatMap needT) = A0 at r1 HLN
      generalize S (out.flatMap offT) = B0 at r4 HLO
      generalize S (textL needs (m + 1) nm out) = A5 at r5 HTi
      have hst : wc.drew.cell? ⟨w1.heap.size, 0, none⟩ = some (.string nm) ∧ Below wc.drew.heap.size wc.drew wc.drew := ⟨cell_on (cell_on HCn.out hb6) hd, Below.refl _ _⟩
      generalize (needs.take (m + 1)).length = nl at hsl HLN
      clear hod hor hb6 hoo hol hof hd hws hsv hst2 hlA hlB hln hT
      go_wp2_with fail
      refine wp_region_held_drew (S := (fun W => W.cell? ⟨w1.heap.size, 0, none⟩ = some (.string nm) ∧ Below wc.drew.heap.size wc.drew W)) (by kernel_rfl) (hst) (fun hHeld => ?_)
      refine wpAnyH_take (i := 0) (v := ?_) rfl (by kernel_rfl) (by kernel_rfl) (by kernel_rfl) (fun _ _ _ h => h) (Or.inl ⟨by kernel_rfl, ?_⟩) hHeld ?_
      rotate_left
      · (rintro W ⟨e0, _⟩; go_simp; (try with_reducible rfl))
      (try simp only [Act.put, List.getElem_toArray, List.getElem_cons_zero, List.setIfInBounds_toArray, List.set_cons_succ, List.set_cons_zero])
      refine wpAnyH_take (i := 1) (v := ?_) rfl (by kernel_rfl) (by kernel_rfl) (by kernel_rfl) (fun _ _ _ h => h) (Or.inl ⟨by kernel_rfl, ?_⟩) hHeld ?_
      rotate_left
      · (rintro W ⟨e0, _⟩; go_simp; (try with_reducible rfl))
      (try simp only [Act.put, List.getElem_toArray, List.getElem_cons_succ, List.getElem_cons_zero, List.setIfInBounds_toArray, List.set_cons_succ, List.set_cons_zero])
      refine wpAnyH_take (i := 2) (v := ?_) rfl (by kernel_rfl) (by kernel_rfl) (by kernel_rfl) (fun _ _ _ h => h) (Or.inl ⟨by kernel_rfl, ?_⟩) hHeld ?_
      rotate_left
      · (rintro W ⟨e0, _⟩; go_simp; (try with_reducible rfl))
      (try simp only [Act.put, List.getElem_toArray, List.getElem_cons_succ, List.getElem_cons_zero, List.setIfInBounds_toArray, List.set_cons_succ, List.set_cons_zero])
      refine wpAnyH_take (i := 5) (v := ?_) rfl (by kernel_rfl) (by kernel_rfl) (by kernel_rfl) (fun _ _ _ h => h) (Or.inl ⟨by kernel_rfl, ?_⟩) hHeld ?_
      rotate_left
      · (rintro W ⟨e0, _⟩; go_simp; (try with_reducible rfl))
      (try simp only [Act.put, List.getElem_toArray, List.getElem_cons_succ, List.getElem_cons_zero, List.setIfInBounds_toArray, List.set_cons_succ, List.set_cons_zero])
      refine wpAnyH_take (i := 8) (v := ?_) rfl (by kernel_rfl) (by kernel_rfl) (by kernel_rfl) (fun _ _ _ h => h) (Or.inl ⟨by kernel_rfl, ?_⟩) hHeld ?_
      rotate_left
      · (rintro W ⟨e0, _⟩; go_simp; (try with_reducible rfl))
      (try simp only [Act.put, List.getElem_toArray, List.getElem_cons_succ, List.getElem_cons_zero, List.setIfInBounds_toArray, List.set_cons_succ, List.set_cons_zero])
      refine wpAnyH_ready (rs := [3]) (by kernel_rfl) (by simp) ?_
      refine AllReadyH.cons rfl (fun K hK => ?_) AllReadyH.nil
      go_simp
      refine (HLN.out _ hHeld.2).mono ?_
      rintro e w7 ⟨rfl, hk7⟩
      refine hK.out _ _ (⟨cell_on hHeld.1 hk7, below_then hHeld.2 hk7⟩) (fun hHeld => ?_)
      clear hK K
      (try simp only [Act.put, List.getElem_toArray, List.getElem_cons_succ, List.getElem_cons_zero, List.setIfInBounds_toArray, List.set_cons_succ, List.set_cons_zero])
      refine wpAnyH_take (i := 4) (v := ?_) rfl (by kernel_rfl) (by kernel_rfl) (by kernel_rfl) (fun _ _ _ h => h) (Or.inl ⟨by kernel_rfl, ?_⟩) hHeld ?_
      rotate_left
      · (rintro W ⟨e0, _⟩; go_simp; (try with_reducible rfl))
      (try simp only [Act.put, List.getElem_toArray, List.getElem_cons_succ, List.getElem_cons_zero, List.setIfInBounds_toArray, List.set_cons_succ, List.set_cons_zero])
      refine wpAnyH_take (i := 6) (v := ?_) rfl (by kernel_rfl) (by kernel_rfl) (by kernel_rfl) (fun _ _ _ h => h) (Or.inl ⟨by kernel_rfl, ?_⟩) hHeld ?_
      rotate_left
      · (rintro W ⟨e0, _⟩; go_simp; (try with_reducible rfl))
      (try simp only [Act.put, List.getElem_toArray, List.getElem_cons_succ, List.getElem_cons_zero, List.setIfInBounds_toArray, List.set_cons_succ, List.set_cons_zero])
      refine wpAnyH_take (i := 7) (v := ?_) rfl (by kernel_rfl) (by kernel_rfl) (by kernel_rfl) (fun _ _ _ h => h) (Or.inl ⟨by kernel_rfl, ?_⟩) hHeld ?_
      rotate_left
      · (rintro W ⟨e0, _⟩; go_simp; (try with_reducible rfl))
      (try simp only [Act.put, List.getElem_toArray, List.getElem_cons_succ, List.getElem_cons_zero, List.setIfInBounds_toArray, List.set_cons_succ, List.set_cons_zero])
      refine wpAnyH_ready (rs := [9]) (by kernel_rfl) (by simp) ?_
      refine AllReadyH.cons rfl (fun K hK => ?_) AllReadyH.nil
      go_simp
      refine (HLO.out _ hHeld.2).mono ?_
      rintro e w8 ⟨rfl, hk8⟩
      refine hK.out _ _ (⟨cell_on hHeld.1 hk8, below_then hHeld.2 hk8⟩) (fun hHeld => ?_)
      clear hK K
      (try simp only [Act.put, List.getElem_toArray, List.getElem_cons_succ, List.getElem_cons_zero, List.setIfInBounds_toArray, List.set_cons_succ, List.set_cons_zero])
      refine wpAnyH_take (i := 10) (v := ?_) rfl (by kernel_rfl) (by kernel_rfl) (by kernel_rfl) (fun _ _ _ h => h) (Or.inl ⟨by kernel_rfl, ?_⟩) hHeld ?_
      rotate_left
      · (rintro W ⟨e0, _⟩; go_simp; (try with_reducible rfl))
      (try simp only [Act.put, List.getElem_toArray, List.getElem_cons_succ, List.getElem_cons_zero, List.setIfInBounds_toArray, List.set_cons_succ, List.set_cons_zero])
      refine wpAnyH_take (i := 11) (v := ?_) rfl (by kernel_rfl) (by kernel_rfl) (by kernel_rfl) (fun _ _ _ h => h) (Or.inl ⟨by kernel_rfl, ?_⟩) hHeld ?_
      rotate_left
      · (rintro W ⟨e0, _⟩; go_simp; (try with_reducible rfl))
      (try simp only [Act.put, List.getElem_toArray, List.getElem_cons_succ, List.getElem_cons_zero, List.setIfInBounds_toArray, List.set_cons_succ, List.set_cons_zero])
      refine wpAnyH_take (i := 12) (v := ?_) rfl (by kernel_rfl) (by kernel_rfl) (by kernel_rfl) (fun _ _ _ h => h) (Or.inl ⟨by kernel_rfl, ?_⟩) hHeld ?_
      rotate_left
      · (rintro W ⟨e0, _⟩; go_simp; (try with_reducible rfl))
      (try simp only [Act.put, List.getElem_toArray, List.getElem_cons_succ, List.getElem_cons_zero, List.setIfInBounds_toArray, List.set_cons_succ, List.set_cons_zero])
      refine wpAnyH_take (i := 13) (v := ?_) rfl (by kernel_rfl) (by kernel_rfl) (by kernel_rfl) (fun _ _ _ h => h) (Or.inl ⟨by kernel_rfl, ?_⟩) hHeld ?_
      rotate_left
      · (rintro W ⟨e0, _⟩; go_simp; (try with_reducible rfl))
      (try simp only [Act.put, List.getElem_toArray, List.getElem_cons_succ, List.getElem_cons_zero, List.setIfInBounds_toArray, List.set_cons_succ, List.set_cons_zero])
      refine wpAnyH_done (by kernel_rfl) ?_ _
      have HBf := Lib.hid (below_then HBd.out hHeld.2)
      clear hst hHeld
      go_wp2_with fail
      go_ret2
      exact ⟨A5, 0, rfl, HTi.out, HBf.out⟩
end Go.Proofs.YtllkiedikjgkbaaGreatDoor
