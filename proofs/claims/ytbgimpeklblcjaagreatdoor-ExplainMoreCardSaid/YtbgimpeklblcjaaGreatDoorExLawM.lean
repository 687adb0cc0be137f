/- ExplainMore: where the first needs do not go together, they do not with more behind them. The law returns true. -/
import Derived.Test.YtbgimpeklblcjaaGreatDoorExTells
import Derived.Test.YtbgimpeklblcjaaGreatDoorExBl
import Derived.Test.YtbgimpeklblcjaaGreatDoorChPre
import Derived.Test.YtbgimpeklblcjaaGreatDoorTabLast
namespace Go
open Go.RowKit
theorem wpList_app {P : Program} {w : World} {ops : Array Oper} {rest : List Oper} {o : Oper} {a : Act} {Q : Exit → Act → World → Prop} (hg : o.guard = none) (s x : Operand) (t : TypeId)
  (hop : o.op = .call { callee := .builtin .append, args := #[s, x], argTypes := #[t, t] })
  (base : Nat) (e : TypeId) (i : TypeInfo) (z : Value) (size bytes : Nat) (ht : P.underlying t = some (.slice e)) (hi : P.info? e = some i) (hz : i.zero = some z)
  (hsize : i.size = size) (hby : i.bytes = bytes) (hzs : z.cells.size = size) (hsz : 0 < size)
  (v : Value) (n : Nat) (xs : List Value) (hs : a.eval s = v) (hown : w.ownsRow base e size v n xs)
  (ao : Option Addr) (m c : Nat) (news : List Value) (hx : a.eval x = .slice ao m c) (hl : news.length = m * size) (hm : m = 0 ∨ ∃ ad, ao = some ad ∧ ∀ j u, news[j]? = some u → w.cell? (ad.add j) = some u) (h1 : ∀ u ∈ news, u.oneCell' = true)
  (h63 : n + m ≤ maxLen) (hbytes : (n + m) * bytes ≤ 140737488355328) (hbase : base ≤ w.heap.size)
  (h : ∀ v' w', w'.ownsRow base e size v' (n + m) (xs ++ news) → w.grownBy w' v.ownBlock → wpList P ops Q rest (a.put o.dst v') w') :
  wpList P ops Q (o :: rest) a w := by
 rcases hm with rfl | ⟨ad, rfl, hnews⟩
 ·have hn : news = [] := by
   rw [Nat.zero_mul] at hl; exact List.eq_nil_of_length_eq_zero hl
  subst hn
  have hr : (Builtin.append_ #[t, t] o.type #[v, .slice ao 0 c]).run P w = .ok v w := by
   have hv : ∃ b l k, v = .slice b l k ∧ l ≤ k := by
    rcases hown.2 with ⟨h, _⟩ | ⟨g, cap, cur, h, _, _, h4, _⟩
    ·exact ⟨_, _, _, h, Nat.le_refl _⟩
    ·exact ⟨_, _, _, h, h4⟩
   obtain ⟨b, l, k, rfl, hlk⟩ := hv
   refine run_append_nothing w t t o.type e i ht hi b l k hlk _ ?_
   cases ao with
   | none => exact Src.ofNil _ ht c
   | some ad => exact Src.ofSlice _ ht ad 0 c [] (by simp) (fun j u h => by simp at h) (fun u h => by cases h)
  refine wpList_plain hg fun K hK => ?_
  unfold Oper.wp execOp
  simp only [hop, resolve, invoke, builtin, Sem.run_bind, Sem.run_pure, Result.andThen_ok, List.map_toArray, List.map_cons, List.map_nil, hs, hx, hr]
  refine hK _ _ (h v w ?_ ⟨rfl, rfl, rfl, Nat.le_refl _, fun _ _ _ => rfl⟩)
  rw [List.append_nil, Nat.add_zero]; exact hown
 ·exact wpList_append_own_at _ hg s x t hop base e i z size bytes ht hi hz hsize hby hzs hsz v n xs hs hown ad m c news hx hl hnews h1 h63 hbytes hbase fun v' w' h2 h3 _ _ => h v' w' h2 h3
theorem own_capE {w : World} {b : Nat} {e : TypeId} {size n : Nat} {v : Value} {xs : List Value} (h : w.ownsRow b e size v n xs) : ∀ a m c, v = .slice a m c → m ≤ c := by
 rintro a m c rfl
 rcases h.2 with ⟨h1, _⟩ | ⟨g, cap, cur, h1, _, _, h4, _⟩
 ·injection h1 with _ e1 e2; omega
 ·injection h1 with _ e1 e2; omega
theorem row_src {w : World} {size m c : Nat} {ao : Option Addr} {xs : List Value} (h : Row w size (.slice ao m c) m xs) : m = 0 ∨ ∃ ad, ao = some ad ∧ ∀ j u, xs[j]? = some u → w.cell? (ad.add j) = some u := by
 obtain ⟨h1, _, ⟨a, cap, h3, h4, _⟩ | ⟨b, off, cap, h3, h4, h5, h6⟩⟩ := h
 ·exact .inl h4
 ·injection h3 with h3 _ _
  refine .inr ⟨_, h3, fun j u hj => ?_⟩
  have hjl : j < m * size := by rw [← h1]; exact (List.getElem?_eq_some_iff.1 hj).1
  rw [show (⟨b, off, none⟩ : Addr).add j = ⟨b, off + j, none⟩ by simp [Addr.add], h6 j hjl, hj]
theorem wants_one {w : World} {v : Value} {xs : List (Want × Value)} (h : Wants w v xs) : ∀ u ∈ xs.flatMap WCells, u.oneCell' = true := by
 intro u hu
 obtain ⟨x, hx, hu⟩ := List.mem_flatMap.1 hu
 obtain ⟨_, a, c, hv⟩ := h.2 x hx
 simp only [WCells, List.mem_cons, List.not_mem_nil, or_false] at hu
 rcases hu with rfl | rfl
 ·rfl
 ·rw [hv]; rfl
theorem wants_own {w : World} {b : Nat} {e : TypeId} {v : Value} {n : Nat} {xs ys : List (Want × Value)} (h : w.ownsRow b e 2 v n ([] ++ xs.flatMap WCells ++ ys.flatMap WCells)) (hn : n = 0 + xs.length + ys.length) (hx : ∀ x ∈ xs, RvOk w x) (hy : ∀ x ∈ ys, RvOk w x) : Wants w v (xs ++ ys) := by
 refine ⟨?_, fun x hm => (List.mem_append.1 hm).elim (hx x) (hy x)⟩
 have := Row.of_owns h
 rw [hn, List.nil_append, ← List.flatMap_append, Nat.zero_add, ← List.length_append] at this
 exact this
theorem packs_none (w : World) : Packs w (.slice none 0 0) [] := ⟨⟨rfl, Nat.zero_le _, .inl ⟨_, _, rfl, rfl, fun _ => rfl⟩⟩, fun x hx => by cases hx⟩
theorem SmallP.join {ps : List DPack} {lock : List Pik} {needs more : List (Want × Value)} (h : SmallP ps lock needs) (h' : SmallP [] [] more) (hl : needs.length + more.length ≤ 30) : SmallP ps lock (needs ++ more) :=
 ⟨h.few, h.fewl, h.os, h.lk, by rw [List.length_append]; exact hl, fun x hx => (List.mem_append.1 hx).elim (h.nd.2 x) (h'.nd.2 x)⟩
end Go
namespace Go.Proofs.YtbgimpeklblcjaaGreatDoor
open Go.RowKit Go.Maps
set_option maxRecDepth 100000 in
set_option maxHeartbeats 4000000 in
theorem explainMore_any (pk lk nv mv : Value) (ps : List DPack) (lock : List Pik) (needs more : List (Want × Value)) (bud : Int) (w : World)
  (hp : Packs w pk ps) (hl : Piks w lk lock) (hn : Wants w nv needs) (hcap : ∀ a n c, nv = .slice a n c → n ≤ c) (hm : Wants w mv more) (h0 : -9223372036854775808 ≤ bud) (h1 : bud ≤ 9223372036854775807) (hE : EnvI w) :
  Calls Tryz.prog 7 #[.agg #[pk, lk, nv], mv, .int .i64 bud] w fun e w' => e = .returned (.bool true) ∧ Below w.heap.size w w' := by
 obtain ⟨hmm, ma, mc, rfl⟩ := hm.len
 obtain ⟨hmn, na, nc, rfl⟩ := hn.len
 have hnc := hcap _ _ _ rfl
 have hx1 := Below.refl (w.heap.size + 1) (w.alloc (.cells #[pk, lk, (.slice na needs.length nc)] 26))
 have hW1 := below_first hx1
 have HSm := Lib.hid (small_any pk lk (.slice na needs.length nc) ps lock needs _ (hp.below hW1 (Nat.le_refl _)) (hl.below hW1 (Nat.le_refl _)) (hn.below hW1 (Nat.le_refl _)))
 have c0 := box_cells hx1 0
 have c1 := box_cells hx1 1
 have c2 := box_cells hx1 2
 simp only [List.getElem?_toArray, List.getElem?_cons_zero, List.getElem?_cons_succ] at c0 c1 c2
 have HE := Lib.hid hE
 have HNc := Lib.hid hnc
 have HW1 := Lib.hid hW1
 have HA : Hid (∀ W, Below w.heap.size w W → Calls Tryz.prog 10 #[] W fun e w' => e = .returned (.bool true) ∧ Below W.heap.size W w') := fun W hW => exAwake_any W (HE.out.below hW)
 have HX := Lib.hid (⟨hp, hl, hn, hm⟩ : _ ∧ _ ∧ _ ∧ _)
 have HBud := Lib.hid (⟨h0, h1⟩ : _ ∧ _)
 have HSm2 : Hid (∀ W, Below w.heap.size w W → Calls Tryz.prog 8 #[.agg #[.slice none 0 0, .slice none 0 0, .slice ma more.length mc]] W (SmallPost [] [] more W)) := fun W hW =>
  small_any _ _ _ [] [] more W (packs_none W) (piks_nil W) (HX.out.2.2.2.below hW (Nat.le_refl _))
 clear hp hl hn hm hE hx1 hW1 h0 h1 hcap hnc hmn hmm
 go_enter Tryz.func7, Tryz.ntmps7
 go_wp2_with fail
 refine HSm.out.mono ?_
 rintro e w2 ⟨⟨b, rfl, hS⟩, hb2⟩
 have hB2 := below_then HW1.out hb2
 have d0 := cell_on c0 hb2
 have d1 := cell_on c1 hb2
 have d2 := cell_on c2 hb2
 have HB2 := Lib.hid hB2
 have HS := Lib.hid hS
 clear c0 c1 c2 hB2 hb2 hS
 cases b
 case false =>
  go_wp2_with fail
  refine (HA.out _ HB2.out).mono ?_
  rintro e wz ⟨rfl, hbz⟩
  have hbf := HB2.out.trans (hbz.mono HB2.out.size)
  clear d0 d1 d2 hbz
  go_wp2_with fail
  go_ret
  exact ⟨rfl, hbf⟩
 have HSp := Lib.hid (HS.out rfl)
 go_wp2_with fail
 refine (HSm2.out _ HB2.out).mono ?_
 rintro e w3 ⟨⟨b, rfl, hS⟩, hb3⟩
 have hB3 := below_then HB2.out hb3
 have c0 := cell_on d0 hb3
 have c1 := cell_on d1 hb3
 have c2 := cell_on d2 hb3
 have HB3 := Lib.hid hB3
 have HS3 := Lib.hid hS
 clear d0 d1 d2 hB3 hb3 hS
 cases b
 case false =>
  go_wp2_with fail
  refine (HA.out _ HB3.out).mono ?_
  rintro e wz ⟨rfl, hbz⟩
  have hbf := HB3.out.trans (hbz.mono HB3.out.size)
  clear c0 c1 c2 hbz
  go_wp2_with fail
  go_ret
  exact ⟨rfl, hbf⟩
 have HSq := Lib.hid (HS3.out rfl)
 by_cases ga : 5 < needs.length
 ·have qa : decide ((5 : Int) < (needs.length : Int)) = true := decide_eq_true (by omega)
  have qa2 : decide (5 < needs.length) = true := decide_eq_true ga
  clear ga
  go_wp2_with fail
  refine (HA.out _ HB3.out).mono ?_
  rintro e wz ⟨rfl, hbz⟩
  have hbf := HB3.out.trans (hbz.mono HB3.out.size)
  clear c0 c1 c2 hbz
  go_wp2_with fail
  go_ret
  exact ⟨rfl, hbf⟩
 have qa : decide ((5 : Int) < (needs.length : Int)) = false := decide_eq_false (by omega)
 have qa2 : decide (5 < needs.length) = false := decide_eq_false ga
 by_cases gb : 3 < more.length
 ·have qb : decide ((3 : Int) < (more.length : Int)) = true := decide_eq_true (by omega)
  have qb2 : decide (3 < more.length) = true := decide_eq_true gb
  clear ga gb
  go_wp2_with fail
  refine (HA.out _ HB3.out).mono ?_
  rintro e wz ⟨rfl, hbz⟩
  have hbf := HB3.out.trans (hbz.mono HB3.out.size)
  clear c0 c1 c2 hbz
  go_wp2_with fail
  go_ret
  exact ⟨rfl, hbf⟩
 have qb : decide ((3 : Int) < (more.length : Int)) = false := decide_eq_false (by omega)
 have qb2 : decide (3 < more.length) = false := decide_eq_false gb
 by_cases gc : 5000 < bud
 ·have qc : decide (5000 < bud) = true := decide_eq_true gc
  clear ga gb gc
  go_wp2_with fail
  refine (HA.out _ HB3.out).mono ?_
  rintro e wz ⟨rfl, hbz⟩
  have hbf := HB3.out.trans (hbz.mono HB3.out.size)
  clear c0 c1 c2 hbz
  go_wp2_with fail
  go_ret
  exact ⟨rfl, hbf⟩
 have qc : decide (5000 < bud) = false := decide_eq_false gc
 have HNM : Hid (needs.length ≤ 5 ∧ more.length ≤ 3) := ⟨by omega, by omega⟩
 have HSj := Lib.hid (HSp.out.join HSq.out (by omega))
 have HBl := Lib.hid (blame_as HSp.out (HX.out.1.below HB3.out (Nat.le_refl _)) (HX.out.2.1.below HB3.out (Nat.le_refl _)) (HX.out.2.2.1.below HB3.out (Nat.le_refl _)) (fun a n c h => by injection h with _ e1 e2; have := HNc.out; omega) (HE.out.env.below HB3.out) bud HBud.out.1 HBud.out.2)
 clear ga gb gc
 go_wp2_with fail
 refine HBl.out.mono ?_
 rintro e w4 ⟨k, er, rfl, hbl, hb4⟩
 have HB4 := Lib.hid (below_then HB3.out hb4)
 have HCa : Hid (CaS w.heap.size pk lk (.slice na needs.length nc) w w4) := ⟨cell_on c0 hb4, cell_on c1 hb4, cell_on c2 hb4, HB4.out⟩
 have HBi := Lib.hid hbl
 clear hbl hb4 c0 c1 c2
 by_cases he : er = 0
 case neg =>
  have q0 : (er != 0) = true := bne_iff_ne.2 he
  clear he
  go_wp2_with fail
  refine (HA.out _ HB4.out).mono ?_
  rintro e wz ⟨rfl, hbz⟩
  have hbf := HB4.out.trans (hbz.mono HB4.out.size)
  clear  hbz
  go_wp2_with fail
  go_ret
  exact ⟨rfl, hbf⟩
 subst he
 by_cases hk : k = 0
 ·subst hk
  go_wp2_with fail
  refine (HA.out _ HB4.out).mono ?_
  rintro e wz ⟨rfl, hbz⟩
  have hbf := HB4.out.trans (hbz.mono HB4.out.size)
  clear  hbz
  go_wp2_with fail
  go_ret
  exact ⟨rfl, hbf⟩
 have q4 : ((k : Int) == 0) = false := by rw [beq_eq_false_iff_ne]; omega
 have q5 : (k == 0) = false := beq_eq_false_iff_ne.2 hk
 have HK0 := Lib.hid hk
 obtain ⟨i0, hi, hq0, hq1, hq2⟩ := info_of info_needC
 have hown0 : (w4.alloc (.cells #[] 60)).ownsRow w4.heap.size 60 2 (.slice (some ⟨w4.heap.size, 0, none⟩) 0 0) 0 [] := World.ownsRow_made (base := w4.heap.size) (size := 2) (e := 60) w4 #[] 0 (Nat.le_refl _) (by decide) rfl
 have hal := (Below.refl w4.heap.size w4).alloc (Nat.le_refl _) (.cells #[] 60)
 have hsrc1 := row_src (HX.out.2.2.1.below (below_then HB4.out hal) (Nat.le_refl _)).1
 have hone1 := wants_one HX.out.2.2.1
 have hl1 : (needs.flatMap WCells).length = needs.length * 2 := wants_flat _
 have h30 := HNM.out
 obtain ⟨c0, c1, c2, _⟩ := HCa.out.on hal
 have HAl := Lib.hid hal
 clear hk hal
 go_wp2_with (at_builtin; go_must (refine wpList_app rfl _ _ 24 rfl w4.heap.size 60 i0 _ 2 40 Tryz.underlying24 hi hq0 hq1 hq2 rfl (by decide) _ _ _ rfl hown0 na needs.length nc (needs.flatMap WCells) rfl hl1 hsrc1 hone1 (by unfold maxLen; omega) (by omega) (by simp) ?_))
 intro v1 w5 hown1 hgr1
 have hbA := below_grown HAl.out hown0 hgr1 (by simp)
 have hsrc2 := row_src (HX.out.2.2.2.below (below_then HB4.out hbA) (Nat.le_refl _)).1
 have hone2 := wants_one HX.out.2.2.2
 have hl2 : (more.flatMap WCells).length = more.length * 2 := wants_flat _
 have HbA := Lib.hid hbA
 clear hown0 hgr1 hsrc1 hone1 hl1 hbA
 go_wp2_with (at_builtin; go_must (refine wpList_app rfl _ _ 24 rfl w4.heap.size 60 i0 _ 2 40 Tryz.underlying24 hi hq0 hq1 hq2 rfl (by decide) _ _ _ rfl hown1 ma more.length mc (more.flatMap WCells) rfl hl2 hsrc2 hone2 (by unfold maxLen; omega) (by omega) HbA.out.size ?_))
 intro v2 w6 hown2 hgr2
 have hbB := below_grown HbA.out hown1 hgr2 HbA.out.size
 have hb6 := below_then HB4.out hbB
 have HB6 := Lib.hid hb6
 have hWj := wants_own hown2 (by omega) (fun x hx => (HX.out.2.2.1.2 x hx).below HB6.out (Nat.le_refl _)) (fun x hx => (HX.out.2.2.2.2 x hx).below HB6.out (Nat.le_refl _))
 have HWj := Lib.hid hWj
 have HBl2 := Lib.hid (blame_as HSj.out (HX.out.1.below HB6.out (Nat.le_refl _)) (HX.out.2.1.below HB6.out (Nat.le_refl _)) hWj (own_capE hown2) (HE.out.env.below HB6.out) bud HBud.out.1 HBud.out.2)
 obtain ⟨d0, d1, d2, _⟩ := HCa.out.on hbB
 clear hown1 hgr2 hsrc2 hone2 hl2 hown2 hbB hb6 hWj hi hq0 hq1 hq2 c0 c1 c2 h30
 go_wp2_with fail
 refine HBl2.out.mono ?_
 rintro e w7 ⟨m, f, rfl, hbl2, hb7⟩
 have HB7 := Lib.hid (below_then HB6.out hb7)
 have HBj := Lib.hid hbl2
 have HSo := Lib.hid (solve_as (SmallP.ctx HSj.out (HX.out.1.below HB7.out (Nat.le_refl _)) (HX.out.2.1.below HB7.out (Nat.le_refl _)) (HWj.out.below hb7 (Nat.le_refl _)) (HE.out.env.below HB7.out)) (fun ts ht => small_tab HSj.out ht) bud HBud.out.1 HBud.out.2)
 have f0 := cell_on d0 hb7
 have f1 := cell_on d1 hb7
 have f2 := cell_on d2 hb7
 clear hbl2 hb7 d0 d1 d2
 go_wp2_with fail
 refine HSo.out.mono ?_
 rintro e w8 ⟨sv, r, n, g, rfl, hsol, _, hb8⟩
 have HB8 := Lib.hid (below_then HB7.out hb8)
 obtain ⟨hmore1, hmore2⟩ := HBi.out.more HK0.out HBj.out ⟨r, n, hsol⟩
 clear hsol hb8 f0 f1 f2
 by_cases hf : f = 0
 ·subst hf
  obtain ⟨rfl, hg⟩ := hmore2 rfl
  have q6 : ((m : Int) == (m : Int)) = true := beq_self_eq_true _
  have q7 : (m == m) = true := beq_self_eq_true _
  clear hmore1 hmore2
  rcases hg with rfl | rfl
  ·skip
   go_wp2_with fail
   refine (HA.out _ HB8.out).mono ?_
   rintro e wz ⟨rfl, hbz⟩
   have hbf := HB8.out.trans (hbz.mono HB8.out.size)
   clear  hbz
   go_wp2_with fail
   go_ret
   exact ⟨rfl, hbf⟩
  ·skip
   go_wp2_with fail
   refine (HA.out _ HB8.out).mono ?_
   rintro e wz ⟨rfl, hbz⟩
   have hbf := HB8.out.trans (hbz.mono HB8.out.size)
   clear  hbz
   go_wp2_with fail
   go_ret
   exact ⟨rfl, hbf⟩
 ·obtain ⟨hf2, rfl⟩ := hmore1 hf
  clear hmore1 hmore2 hf
  rcases hf2 with rfl | rfl
  ·skip
   go_wp2_with fail
   refine (HA.out _ HB8.out).mono ?_
   rintro e wz ⟨rfl, hbz⟩
   have hbf := HB8.out.trans (hbz.mono HB8.out.size)
   clear  hbz
   go_wp2_with fail
   go_ret
   exact ⟨rfl, hbf⟩
  ·skip
   go_wp2_with fail
   refine (HA.out _ HB8.out).mono ?_
   rintro e wz ⟨rfl, hbz⟩
   have hbf := HB8.out.trans (hbz.mono HB8.out.size)
   clear  hbz
   go_wp2_with fail
   go_ret
   exact ⟨rfl, hbf⟩
end Go.Proofs.YtbgimpeklblcjaaGreatDoor
