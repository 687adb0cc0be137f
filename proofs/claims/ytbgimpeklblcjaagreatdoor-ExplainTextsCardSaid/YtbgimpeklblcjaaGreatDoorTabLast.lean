/- One step of a region that draws: append, of nothing too. Choices: slices.Clone at bounds, copied: walks. Choices: copies in memory: which blocks they lie in. Choices: Table: the walk. -/
import Derived.Test.YtbgimpeklblcjaaGreatDoorStabAll
import Derived.Deep.Upon
import Derived.Test.YtbgimpeklblcjaaGreatDoorTabFirst
namespace Go
open Go.RowKit
theorem step_app {P : Program} {ops : Array Oper} {o : Oper} {a : Act} {w : World} {K : Act → World → Prop} {Q : Exit → Act → World → Prop} {E : Prop}
  (hg : o.guard = none) (s x : Operand) (t : TypeId) (hop : o.op = Op.call { callee := Callee.builtin Builtin.append, args := #[s, x], argTypes := #[t, t] })
  (base : Nat) (e : TypeId) (i : TypeInfo) (z : Value) (size bytes : Nat) (ht : P.underlying t = some (.slice e)) (hi : P.info? e = some i) (hz : i.zero = some z)
  (hsize : i.size = size) (hby : i.bytes = bytes) (hzs : z.cells.size = size) (hsz : 0 < size)
  (v : Value) (n : Nat) (xs : List Value) (hs : a.eval s = v) (hown : w.ownsRow base e size v n xs)
  (ao : Option Addr) (m c : Nat) (news : List Value) (hx : a.eval x = .slice ao m c) (hl : news.length = m * size) (hm : m = 0 ∨ ∃ ad, ao = some ad ∧ ∀ j u, news[j]? = some u → w.cell? (ad.add j) = some u) (h1 : ∀ u ∈ news, u.oneCell' = true)
  (h63 : n + m ≤ maxLen) (hbytes : (n + m) * bytes ≤ 140737488355328) (hbase : base ≤ w.heap.size)
  (hK : ∀ v' w', w'.ownsRow base e size v' (n + m) (xs ++ news) → w.grownBy w' v.ownBlock → (v'.ownBlock = v.ownBlock ∨ v'.ownBlock = some w.heap.size) → K (a.put o.dst v') w') :
  if Region.wanted o (yielded ops a.tmps) = true then Oper.wp P o a w K Q else E := by
 rcases hm with rfl | ⟨ad, rfl, hnews⟩
 ·have hn : news = [] := by
   rw [Nat.zero_mul] at hl; exact List.eq_nil_of_length_eq_zero hl
  subst hn
  have hw : Region.wanted o (yielded ops a.tmps) = true := by simp [Region.wanted, hg]
  rw [if_pos hw]
  have hr : (Builtin.append_ #[t, t] o.type #[v, .slice ao 0 c]).run P w = .ok v w := by
   have hv : ∃ b l k, v = .slice b l k ∧ l ≤ k := by
    rcases hown.2 with ⟨h, _⟩ | ⟨g, cap, cur, h, _, _, h4, _⟩
    ·exact ⟨_, _, _, h, Nat.le_refl _⟩
    ·exact ⟨_, _, _, h, h4⟩
   obtain ⟨b, l, k, rfl, hlk⟩ := hv
   refine run_append_nothing w t t o.type e i ht hi b l k hlk _ ?_
   cases ao with
   | none => exact Src.ofNil _ ht c
   | some ad => exact Src.ofSlice _ ht ad 0 c [] (by simp) (fun j u h => by simp at h) (fun u h => by cases h)
  unfold Oper.wp execOp
  simp only [hop, resolve, invoke, builtin, Sem.run_bind, Sem.run_pure, Result.andThen_ok, List.map_toArray, List.map_cons, List.map_nil, hs, hx, hr]
  refine hK v w ?_ ⟨rfl, rfl, rfl, Nat.le_refl _, fun _ _ _ => rfl⟩ (.inl rfl)
  rw [List.append_nil, Nat.add_zero]; exact hown
 ·exact step_append_ats hg s x t hop base e i z size bytes ht hi hz hsize hby hzs hsz v n xs hs hown ad m c news hx hl hnews h1 h63 hbytes hbase hK
theorem own_mono {w : World} {b b' : Nat} {e : TypeId} {size n : Nat} {v : Value} {xs : List Value} (h : w.ownsRow b e size v n xs) (hb : b' ≤ b) : w.ownsRow b' e size v n xs := by
 refine ⟨h.1, ?_⟩
 rcases h.2 with h | ⟨g, cap, cur, h1, h2, h3⟩
 ·exact .inl h
 ·exact .inr ⟨g, cap, cur, h1, Nat.le_trans hb h2, h3⟩
theorem own_lt {w : World} {b : Nat} {e : TypeId} {size n : Nat} {v : Value} {xs : List Value} (h : w.ownsRow b e size v n xs) {g : Nat} (hg : v.ownBlock = some g) : g < w.heap.size := by
 rcases h.2 with ⟨h, _⟩ | ⟨g', cap, cur, h1, _, h3, _⟩
 ·rw [h] at hg; cases hg
 ·rw [h1] at hg
  injection hg with hg
  subst hg
  exact (Array.getElem?_eq_some_iff.1 h3).1
/-- an element that was made lies there still, whatever another row became -/
theorem new_kept {w w' : World} {b : Nat} {ob : Obj} {r : Option Nat} (h : w.heap[b]? = some ob) (hr : r ≠ some b) (hg : w.grownBy w' r) : w'.heap[b]? = some ob := by
 rw [hg.block b (Array.getElem?_eq_some_iff.1 h).1 (fun e => hr e.symm)]; exact h
theorem new_alloc {w : World} {b : Nat} {ob : Obj} (h : w.heap[b]? = some ob) (ob' : Obj) : (w.alloc ob').heap[b]? = some ob := by
 have := (Array.getElem?_eq_some_iff.1 h).1
 rw [((Below.refl w.heap.size w).alloc (Nat.le_refl _) ob').block b this]; exact h
end Go

namespace Go
open Go.RowKit
theorem Wants.grew {w w' : World} {v : Value} {xs : List (Want × Value)} (h : Wants w v xs) {u : Option Nat} (ha : xs ≠ [] → ∀ g, v.ownBlock = some g → u ≠ some g) (hx : ∀ x ∈ xs, x.1.bs ≠ [] → ∀ g, x.2.ownBlock = some g → u ≠ some g) (hg : w.grownBy w' u) : Wants w' v xs :=
 ⟨Row.grew h.1 (fun hn => ha (List.length_pos_iff.1 hn)) hg, fun x hm => (h.2 x hm).grew (hx x hm) hg⟩
/-- an offer that was made anew: its needs, and their ranges, lie in blocks that are new -/
def NewNs (B : Nat) (v : Value) (ns : List (Want × Value)) : Prop := FreshV B v ∧ ∀ x ∈ ns, x.1.bs ≠ [] → FreshV B x.2
theorem NewNs.mono {B B' : Nat} {v : Value} {ns : List (Want × Value)} (h : NewNs B v ns) (hB : B' ≤ B) : NewNs B' v ns := ⟨h.1.mono hB, fun x hx hn => (h.2 x hx hn).mono hB⟩
theorem blk_cells {w : World} {b : Nat} {cs : Array Value} {T : TypeId} (h : w.heap[b]? = some (.cells cs T)) (j : Nat) : w.cell? ⟨b, j, none⟩ = cs[j]? := by
 simp only [World.cell?, h]; rfl
theorem blk_free {w : World} {b : Nat} {cs : Array Value} {T : TypeId} (h : w.heap[b]? = some (.cells cs T)) (j : Nat) : w.frozen? ⟨b, j, none⟩ = false := by
 simp only [World.frozen?, h]
 simp
/-- what the region looks at -/
def CpS (b : Nat) (A : ByteArray) (rv : Value) (w0 W : World) : Prop := W.cell? ⟨b, 0, none⟩ = some (.string A) ∧ W.cell? ⟨b, 1, none⟩ = some rv ∧ Below w0.heap.size w0 W
end Go
namespace Go.Proofs.YtbgimpeklblcjaaGreatDoor
open Go.RowKit Go.Maps
theorem info_boundC : (Tryz.prog.info? 64).map (fun i => (i.zero, i.size, i.bytes)) = some (some (.agg #[.int .i64 0, .int .i64 0, .int .i64 0, .int .i64 0, .string ⟨#[]⟩]), 5, 48) := by kernel_rfl
theorem info_needC : (Tryz.prog.info? 60).map (fun i => (i.zero, i.size, i.bytes)) = some (some (.agg #[.string ⟨#[]⟩, .slice none 0 0]), 2, 40) := by kernel_rfl
theorem wpList_append_run2 {P : Program} {ops : Array Oper} {rest : List Oper} {o : Oper} {a : Act} {Q : Exit → Act → World → Prop} {w w' : World} {v : Value} (hw : Region.wanted o (yielded ops a.tmps) = true) (s x : Operand) (t : TypeId)
  (ho : o.op = .call { callee := .builtin .append, args := #[s, x], argTypes := #[t, t] }) (vs vx : Value) (hs : a.eval s = vs) (hx : a.eval x = vx)
  (hrun : (Builtin.append_ #[t, t] o.type #[vs, vx]).run P w = .ok v w') (h : wpList P ops Q rest (a.put o.dst v) w') : wpList P ops Q (o :: rest) a w := by
 refine wpList_step fun K hK => ?_
 rw [if_pos hw]
 unfold Oper.wp
 simp [execOp, ho, resolve, invoke, builtin, hs, hx, hrun, Result.andThen]
 exact hK _ _ h
theorem info_of {t : TypeId} {z : Value} {a b : Nat} (h : (Tryz.prog.info? t).map (fun i => (i.zero, i.size, i.bytes)) = some (some z, a, b)) : ∃ i, Tryz.prog.info? t = some i ∧ i.zero = some z ∧ i.size = a ∧ i.bytes = b := by
 rcases hi : Tryz.prog.info? t with _ | i
 ·rw [hi] at h; cases h
 ·rw [hi] at h
  simp only [Option.map_some, Option.some.injEq, Prod.mk.injEq] at h
  exact ⟨i, rfl, h.1, h.2.1, h.2.2⟩
set_option maxRecDepth 100000 in
set_option maxHeartbeats 1000000 in
theorem cloneB_some (ad : Addr) (cap : Nat) (bs : List Bnd) (w : World) (hv : Bnds w (.slice (some ad) bs.length cap) bs) (hN : bs.length ≤ 1000) :
  Calls Tryz.prog 142 #[.slice (some ad) bs.length cap] w fun e w' => ∃ a c, e = .returned (.slice a bs.length c) ∧ Bnds w' (.slice a bs.length c) bs ∧ Below w.heap.size w w' ∧ FreshV w.heap.size (.slice a bs.length c) := by
 obtain ⟨i0, hi, hz0, hz1, hz2⟩ := info_of info_boundC
 have q : ∀ (w : World) (a : Option Addr) (n c n' c' : Nat), (binOp .eql 58 (.slice a n c) (.slice none n' c')).run Tryz.prog w = .ok (.bool a.isNone) w := fun w a n c n' c' => Lib.run_eql_slice_nil w _ _ a n c n' c' Tryz.underlying58
 have hb2 := (Below.refl w.heap.size w).alloc (Nat.le_refl _) (.cells #[] 64)
 rcases Nat.eq_zero_or_pos bs.length with h0 | h0
 ·have hbs : bs = [] := List.eq_nil_of_length_eq_zero h0
  subst hbs
  have hr := fun (W : World) => run_append_nothing (P := Tryz.prog) W 58 58 58 64 i0 Tryz.underlying58 hi (some ⟨w.heap.size, 0, none⟩) 0 0 (Nat.le_refl _) _ (Src.ofSlice _ Tryz.underlying58 ad 0 cap [] (by simp) (fun j u h => by simp at h) (fun u h => by cases h))
  clear hv h0
  go_enter Tryz.func142, Tryz.ntmps142
  go_wp2_with (at_builtin; go_must (refine wpList_append_run2 rfl _ _ 58 rfl _ _ rfl rfl (hr _) ?_))
  go_wp2
  go_ret
  exact ⟨_, _, rfl, ⟨rfl, Nat.zero_le _, .inl ⟨_, _, rfl, rfl, fun h => by cases h⟩⟩, hb2, FreshV.mk (Nat.le_refl _)⟩
 ·have HN := Lib.hid hv
  have HH := hv
  obtain ⟨_, _, ⟨_, _, _, h9, _⟩ | ⟨b, off, c', e, _, hb, hc⟩⟩ := HH
  ·omega
  injection e with e1 e2 e3
  injection e1 with e1
  subst e1 e3
  have HC := Lib.hid hc
  clear hc hv e2
  go_enter Tryz.func142, Tryz.ntmps142
  go_wp2_with (at_builtin; go_must (refine wpList_append_own _ rfl _ _ 58 rfl w.heap.size 64 i0 (.agg #[.int .i64 0, .int .i64 0, .int .i64 0, .int .i64 0, .string ⟨#[]⟩]) 5 48 Tryz.underlying58 hi hz0 hz1 hz2 rfl (by decide) _ _ _ rfl (World.ownsRow_made (size := 5) w #[] 0 (Nat.le_refl _) (Nat.zero_le _) rfl) ⟨b, off, none⟩ bs.length cap (bs.flatMap Bnd.cells) rfl ?c0 ?c1 ?c2 ?c3 ?c4 ?c5 ?_))
  case c0 => rw [bnds_len]
  case c1 =>
   intro j u hj
   have hjl : j < bs.length * 5 := by have := (List.getElem?_eq_some_iff.1 hj).1; rw [bnds_len] at this; exact this
   have h := HC.out j hjl
   rw [hj] at h
   rw [← h]
   rw [show (⟨b, off, none⟩ : Addr).add j = ⟨b, off + j, none⟩ by simp [Addr.add]]
   exact hb2.cell (p := ⟨b, off + j, none⟩) hb
  case c2 =>
   intro u hu
   obtain ⟨x, _, hx⟩ := List.mem_flatMap.1 hu
   simp [Bnd.cells] at hx
   rcases hx with rfl | rfl | rfl | rfl | rfl <;> rfl
  case c3 => unfold maxLen; omega
  case c4 => omega
  case c5 => simp
  intro v' w1 hown hg _
  have hb3 := hb2.grown hg (by simp) (by intro k hk; simp [Value.ownBlock] at hk; omega)
  have hown2 : w1.ownsRow w.heap.size 64 5 v' bs.length (bs.flatMap Bnd.cells) := by simpa using hown
  obtain ⟨g2, cap2, hv2⟩ := Joins.ownsRow_form hown2 h0
  subst hv2
  have HO := Lib.hid hown2
  clear hg hown hown2
  go_wp2
  go_ret
  exact ⟨_, _, rfl, Row.of_owns HO.out, hb3, FreshV.of_owns HO.out⟩
set_option maxRecDepth 100000 in
set_option maxHeartbeats 1000000 in
theorem cloneB_nil (n c : Nat) (w : World) :
  Calls Tryz.prog 142 #[.slice none n c] w fun e w' => e = .returned (.slice none 0 0) ∧ w' = w := by
 have q : ∀ (w : World) (a : Option Addr) (n c n' c' : Nat), (binOp .eql 58 (.slice a n c) (.slice none n' c')).run Tryz.prog w = .ok (.bool a.isNone) w := fun w a n c n' c' => Lib.run_eql_slice_nil w _ _ a n c n' c' Tryz.underlying58
 go_enter Tryz.func142, Tryz.ntmps142
 go_wp2_with fail
 go_ret
 exact ⟨rfl, rfl⟩
theorem cloneB_any (a0 : Option Addr) (cap : Nat) (bs : List Bnd) (w : World) (hv : Bnds w (.slice a0 bs.length cap) bs) (hN : bs.length ≤ 1000) :
  Calls Tryz.prog 142 #[.slice a0 bs.length cap] w fun e w' => ∃ a c, e = .returned (.slice a bs.length c) ∧ Bnds w' (.slice a bs.length c) bs ∧ Below w.heap.size w w' ∧ FreshV w.heap.size (.slice a bs.length c) := by
 cases a0 with
 | some ad => exact cloneB_some ad cap bs w hv hN
 | none =>
  have h0 : bs = [] := by
   obtain ⟨_, _, ⟨_, _, _, h9, _⟩ | ⟨b, off, c', e, _⟩⟩ := hv
   ·exact List.eq_nil_of_length_eq_zero h9
   ·cases e
  subst h0
  refine (cloneB_nil _ cap w).mono ?_
  rintro e w' ⟨rfl, rfl⟩
  exact ⟨none, 0, rfl, ⟨rfl, Nat.zero_le _, .inl ⟨_, _, rfl, rfl, fun _ => rfl⟩⟩, Below.refl _ _, FreshV.nil _ _ _⟩
def CpRel (o : DOff) (W2 : World) (v i : Value) (wr : World) : Prop :=
 ∃ (k : Nat) (ns' : List (Want × Value)), k ≤ o.ns.length ∧ i = .int .i64 (k : Int) ∧ Got 60 43 W2.heap.size wr v (.slice none 0 0) ns' [] ∧ ns'.map Prod.fst = (o.ns.take k).map Prod.fst ∧ (∀ x ∈ ns', x.1.bs ≠ [] → FreshV W2.heap.size x.2) ∧ Below W2.heap.size W2 wr
/-- what is made of an offer -/
def CopiedPost (o : DOff) (w : World) (e : Ending) (w' : World) : Prop :=
 ∃ o' : DOff, e = .returned (.agg #[.int .i64 o'.v.a, .int .i64 o'.v.b, .int .i64 o'.v.c, .string o'.v.p, .bool o'.y, .slice o'.na o'.ns.length o'.nc]) ∧ SimO o o' ∧ o'.ok w' ∧ Below w.heap.size w w' ∧ NewNs w.heap.size o'.nv o'.ns
set_option maxRecDepth 100000 in
set_option maxHeartbeats 4000000 in
theorem copied_any (o : DOff) (w : World) (ho : o.ok w) (hn : o.ns.length ≤ 1000000) (hbs : ∀ x ∈ o.ns, x.1.bs.length ≤ 1000) :
  Calls Tryz.prog 113 #[.agg #[.int .i64 o.v.a, .int .i64 o.v.b, .int .i64 o.v.c, .string o.v.p, .bool o.y, .slice o.na o.ns.length o.nc]] w (CopiedPost o w) := by
 obtain ⟨ov, oy, ons, ona, onc⟩ := o
 simp only at hn hbs ⊢
 have hx1 := Below.refl (w.heap.size + 1) (w.alloc (.cells #[.int .i64 ov.a, .int .i64 ov.b, .int .i64 ov.c, .string ov.p, .bool oy, .slice ona ons.length onc] 55))
 have hx2 := hx1.alloc (by simp) (.cells #[.int .i64 0, .int .i64 0, .int .i64 0, .string ⟨#[]⟩, .bool false, .slice none 0 0] 55)
 have hW := below_first hx2
 have s1 : (w.alloc (.cells #[.int .i64 ov.a, .int .i64 ov.b, .int .i64 ov.c, .string ov.p, .bool oy, .slice ona ons.length onc] 55)).heap.size = w.heap.size + 1 := by simp
 have hy1 := Below_heap_new (w.alloc (.cells #[.int .i64 ov.a, .int .i64 ov.b, .int .i64 ov.c, .string ov.p, .bool oy, .slice ona ons.length onc] 55)) (.cells #[.int .i64 0, .int .i64 0, .int .i64 0, .string ⟨#[]⟩, .bool false, .slice none 0 0] 55)
 rw [s1] at hy1
 have HX := Lib.hid hx2
 have HY := Lib.hid hy1
 have HO := Lib.hid (ho.1.below hW (Nat.le_refl _))
 have HBs := Lib.hid hbs
 have hmx : ons.length ≤ 9223372036854775807 := by omega
 have c5 := box_cells hx2 5
 simp only [List.getElem?_toArray, List.getElem?_cons_zero, List.getElem?_cons_succ] at c5
 have HW := Lib.hid hW
 have hI := info_of info_needC
 obtain ⟨i0', hi, hz0, hz1, hz2⟩ := hI
 have hsz2 : ((w.alloc (.cells #[.int .i64 ov.a, .int .i64 ov.b, .int .i64 ov.c, .string ov.p, .bool oy, .slice ona ons.length onc] 55)).alloc (.cells #[.int .i64 0, .int .i64 0, .int .i64 0, .string ⟨#[]⟩, .bool false, .slice none 0 0] 55)).heap.size = w.heap.size + 2 := by simp
 clear hx1 hx2 hW hy1 ho hbs
 go_enter Tryz.func113, Tryz.ntmps113
 go_wp2_with fail
 generalize ((w.alloc (.cells #[.int .i64 ov.a, .int .i64 ov.b, .int .i64 ov.c, .string ov.p, .bool oy, .slice ona ons.length onc] 55)).alloc (.cells #[.int .i64 0, .int .i64 0, .int .i64 0, .string ⟨#[]⟩, .bool false, .slice none 0 0] 55)) = W2 at *
 go_loopw [3, 9] (fun v i wr => CpRel ⟨ov, oy, ons, ona, onc⟩ W2 v i wr) (fun _ i _ => ons.length - (intOf i).toNat)
 case atStart => exact ⟨0, [], Nat.zero_le _, rfl, Got.start _ _ _ _, by simp, by simp, Below.refl _ _⟩
 case round =>
  obtain ⟨k, ns', hk, rfl, hgot, hmap, hfr, hb⟩ := hrel
  simp only at hk
  have hnl : ns'.length = k := by have := congrArg List.length hmap; simpa [Nat.min_eq_left hk] using this
  obtain ⟨va, vcap, rfl⟩ := hgot.fn
  have HG := Lib.hid hgot
  have HM := Lib.hid (⟨hmap, hfr, hnl⟩ : _ ∧ _ ∧ _)
  have HB := Lib.hid hb
  clear hgot hmap hfr
  by_cases hlt : k < ons.length
  ·have i0 : (0 : Int) ≤ (k : Int) := by omega
   have i1 : (k : Int) < (ons.length : Int) := by omega
   obtain ⟨bn, on, rfl, hbn, d0, d1⟩ := HO.out.at' hb hlt
   have hnm := List.getElem_mem hlt
   have HT2 := Lib.hid (List.take_succ_eq_append_getElem hlt)
   have hrv := HO.out.2 _ hnm
   obtain ⟨⟨xn, xv⟩, hxe⟩ : ∃ x, ons[k] = x := ⟨_, rfl⟩
   rw [hxe] at d0 d1 hnm hrv HT2
   have hbl := HBs.out _ hnm
   obtain ⟨hrb, ra, rcap, hrv⟩ := hrv
   simp only at d0 d1 hrv hrb hbl
   subst hrv
   obtain ⟨n0, hn0⟩ : ∃ n, xn.bs.length = n := ⟨_, rfl⟩
   obtain ⟨A, hA⟩ : ∃ A, S xn.name = A := ⟨_, rfl⟩
   rw [hA] at d0
   rw [hn0] at d1 hbl
   have hal := (Below.refl wr.heap.size wr).alloc (Nat.le_refl _) (.cells #[.string A, .slice ra n0 rcap] 60)
   have hx3 := Below.refl (wr.heap.size + 1) (wr.alloc (.cells #[.string A, .slice ra n0 rcap] 60))
   have e0 := box_cells hx3 0
   have e1 := box_cells hx3 1
   simp only [List.getElem?_toArray, List.getElem?_cons_zero, List.getElem?_cons_succ] at e0 e1
   have hb5 := hb.trans (hal.mono hb.size)
   have hg5 := HG.out.below hal
   have HRb := Lib.hid hrb
   have HN0 := Lib.hid hn0
   have HA := Lib.hid hA
   have HTn := Lib.hid HT2.out
   clear hrb hnm hxe hal hx3 hn0 hA
   go_wp2_with fail
   generalize wr.alloc (.cells #[.string A, .slice ra n0 rcap] 60) = W5 at *
   obtain ⟨b5, hb5e⟩ : ∃ b, wr.heap.size = b := ⟨_, rfl⟩
   rw [hb5e] at e0 e1 ⊢
   have hst : CpS b5 A (.slice ra n0 rcap) W2 W5.drew := ⟨cell_on e0 (Below.refl _ _).drew, cell_on e1 (Below.refl _ _).drew, hb5.drew⟩
   have HG5 := Lib.hid (hg5.below (Below.refl _ _).drew)
   have HCl : Hid (∀ W, Below W2.heap.size W2 W → Calls Tryz.prog 142 #[.slice ra n0 rcap] W fun e w' => ∃ a c, e = .returned (.slice a n0 c) ∧ Bnds w' (.slice a n0 c) xn.bs ∧ Below W.heap.size W w' ∧ FreshV W.heap.size (.slice a n0 c)) := fun W hW => by
    have h := HRb.out
    rw [← HN0.out]
    exact cloneB_any ra rcap xn.bs W (h.below hW (Nat.le_refl _)) (by rw [HN0.out]; exact hbl)
   have hb6 : Below W2.heap.size W2 W5.drew := hb5.drew
   have Hb5 := Lib.hid hb5e
   clear e0 e1 hb5 hg5 hb5e
   refine wp_region_held_drew (S := (fun W => CpS b5 A (.slice ra n0 rcap) W2 W)) (by kernel_rfl) (hst) (fun hHeld => ?_)
   refine wpAnyH_take (i := 0) (v := ?_) rfl (by kernel_rfl) (by kernel_rfl) (by kernel_rfl) (fun _ _ _ h => h) (Or.inl ⟨by kernel_rfl, ?_⟩) hHeld ?_
   rotate_left
   ·(rintro W ⟨e0, e1, _⟩; go_simp; (try with_reducible rfl))
   (try simp only [Act.put, putL])
   refine wpAnyH_take (i := 1) (v := ?_) rfl (by kernel_rfl) (by kernel_rfl) (by kernel_rfl) (fun _ _ _ h => h) (Or.inl ⟨by kernel_rfl, ?_⟩) hHeld ?_
   rotate_left
   ·(rintro W ⟨e0, e1, _⟩; go_simp; (try with_reducible rfl))
   (try simp only [Act.put, putL])
   refine wpAnyH_take (i := 2) (v := ?_) rfl (by kernel_rfl) (by kernel_rfl) (by kernel_rfl) (fun _ _ _ h => h) (Or.inl ⟨by kernel_rfl, ?_⟩) hHeld ?_
   rotate_left
   ·(rintro W ⟨e0, e1, _⟩; go_simp; (try with_reducible rfl))
   (try simp only [Act.put, putL])
   refine wpAnyH_take (i := 3) (v := ?_) rfl (by kernel_rfl) (by kernel_rfl) (by kernel_rfl) (fun _ _ _ h => h) (Or.inl ⟨by kernel_rfl, ?_⟩) hHeld ?_
   rotate_left
   ·(rintro W ⟨e0, e1, _⟩; go_simp; (try with_reducible rfl))
   (try simp only [Act.put, putL])
   refine wpAnyH_take (i := 4) (v := ?_) rfl (by kernel_rfl) (by kernel_rfl) (by kernel_rfl) (fun _ _ _ h => h) (Or.inl ⟨by kernel_rfl, ?_⟩) hHeld ?_
   rotate_left
   ·(rintro W ⟨e0, e1, _⟩; go_simp; (try with_reducible rfl))
   (try simp only [Act.put, putL])
   refine wpAnyH_ready (rs := [5]) (by kernel_rfl) (by simp) ?_
   refine AllReadyH.cons rfl (fun K hK => ?_) AllReadyH.nil
   go_simp
   have hBx := hHeld.2.2
   refine (HCl.out _ hb6).mono ?_
   rintro e w6 ⟨ca, cc, rfl, hv6, hk6, hf6⟩
   have HG6 := Lib.hid (HG5.out.below hk6)
   have HF6 := Lib.hid (⟨hv6, hf6⟩ : _ ∧ _)
   have hB6 := hBx.trans (hk6.mono hBx.size)
   have hS6 : CpS b5 A (.slice ra n0 rcap) W2 w6 := ⟨cell_on hHeld.1 hk6, cell_on hHeld.2.1 hk6, hB6⟩
   clear hv6 hf6
   refine hK.out _ _ (hS6) (fun hHeld => ?_)
   clear hK K
   (try simp only [Act.put, putL])
   refine wpAnyH_take (i := 6) (v := ?_) rfl (by kernel_rfl) (by kernel_rfl) (by kernel_rfl) (fun _ _ _ h => h) (Or.inl ⟨by kernel_rfl, ?_⟩) hHeld ?_
   rotate_left
   ·(rintro W ⟨e0, e1, _⟩; go_simp; (try with_reducible rfl))
   (try simp only [Act.put, putL])
   refine wpAnyH_ready (rs := [7]) (by kernel_rfl) (by simp) ?_
   refine AllReadyH.cons rfl (fun K hK => ?_) AllReadyH.nil
   go_simp
   have hal7 := (Below.refl w6.heap.size w6).alloc (Nat.le_refl _) (.cells #[.string A, .slice ca n0 cc] 60)
   have HG7 := Lib.hid (HG6.out.below hal7)
   have hB7 := hB6.trans (hal7.mono hB6.size)
   have hS7 : CpS b5 A (.slice ra n0 rcap) W2 (w6.alloc (.cells #[.string A, .slice ca n0 cc] 60)) := ⟨cell_on hS6.1 hal7, cell_on hS6.2.1 hal7, hB7⟩
   refine hK.out _ _ (hS7) (fun hHeld => ?_)
   clear hK K
   (try simp only [Act.put, putL])
   refine wpAnyH_ready (rs := [8]) (by kernel_rfl) (by simp) ?_
   refine AllReadyH.cons rfl (fun K hK => ?_) AllReadyH.nil
   refine step_append_ats (by rfl) (.tmp 13) (.tmp 20) 24 (by rfl) W2.heap.size 60 i0' (.agg #[.string ⟨#[]⟩, .slice none 0 0]) 2 40 Tryz.underlying24 hi hz0 hz1 hz2 rfl (by decide) (.slice va k vcap) k (ns'.flatMap WCells) (by simp [Act.eval]) (by have h := HG7.out.needs; rw [HM.out.2.2] at h; exact h) ⟨w6.heap.size, 0, none⟩ 1 1 [.string A, .slice ca n0 cc] (by simp [Act.eval]) rfl (pack2_at _ _ rfl _ _ _) (by intro u hu; simp at hu; rcases hu with rfl | rfl <;> rfl) (by unfold maxLen; omega) (by omega) hB7.size ?_
   intro v8 w8 hown8 hg8 hk8
   have hB8 := below_grown hB7 (by have h := HG7.out.needs; rw [HM.out.2.2] at h; exact h) hg8 hB7.size
   obtain ⟨g8, cap8, hv8⟩ := Joins.ownsRow_form hown8 (by omega)
   subst hv8
   have hob : (Value.slice va ns'.length vcap).ownBlock = (Value.slice va k vcap).ownBlock := by rw [HM.out.2.2]
   have hne8 : some b5 ≠ (Value.slice va k vcap).ownBlock := fun e => by have := own_lt HG.out.needs (hob.trans e.symm); have := Hb5.out; omega
   have hS8 : CpS b5 A (.slice ra n0 rcap) W2 w8 := ⟨hg8.cell hS7.1 hne8, hg8.cell hS7.2.1 hne8, hB8⟩
   have HGn : Hid (Got 60 43 W2.heap.size w8 (.slice (some ⟨g8, 0, none⟩) (k + 1) cap8) (.slice none 0 0) (ns' ++ [(xn, .slice ca n0 cc)]) []) := by
    have h7 := HG7.out
    refine h7.need (x := xn) (rv := .slice ca n0 cc) ⟨?_, ?_⟩ (fun _ => ⟨fresh_apart HF6.out.2 HG5.out.needs, (ApartV.nil _).symm⟩) (by rw [HA.out]; exact hown8) (by rw [HM.out.2.2]) (by rw [hob]; exact hg8) (by rw [hob]; exact hk8)
    ·exact HF6.out.1.below hal7 (Nat.le_refl _)
    ·exact ⟨ca, cc, by rw [← HN0.out]⟩
   refine hK.out _ _ hS8 (fun hHeld => ?_)
   clear hK K
   (try simp only [Act.put, putL])
   refine wpAnyH_take (i := 9) (v := ?_) rfl (by kernel_rfl) (by kernel_rfl) (by kernel_rfl) (fun _ _ _ h => h) (Or.inl ⟨by kernel_rfl, ?_⟩) hHeld ?_
   rotate_left
   ·(rintro W ⟨e0, e1, _⟩; go_simp; (try with_reducible rfl))
   (try simp only [Act.put, putL])
   refine wpAnyH_done (by kernel_rfl) ?_ _
   clear hS6 hS7 hS8 hg8 hk8 hown8 hHeld hst hk6
   go_wp2
   go_roundw
   case rel =>
    refine ⟨k + 1, ns' ++ [(xn, .slice ca n0 cc)], hlt, by go_num, HGn.out, ?_, fun x hx hn => ?_, hB8⟩
    ·show _ = (ons.take (k + 1)).map Prod.fst
     rw [List.map_append, HM.out.1, HTn.out, List.map_append]; rfl
    ·rcases List.mem_append.1 hx with hx | hx
     ·exact HM.out.2.1 x hx hn
     ·simp at hx; subst hx
      exact HF6.out.2.mono hb6.size
   case measure => simp [intOf]; omega
  ·have hke := Lib.hid (Nat.le_of_not_lt hlt)
   have q7 : decide (k < ons.length) = false := decide_eq_false hlt
   have hx2 := box_then HX.out HB.out
   have hy2 := (HB.out.block (w.heap.size + 1) (by omega)).trans HY.out
   have p0 := box_cells hx2 0
   have p1 := box_cells hx2 1
   have p2 := box_cells hx2 2
   have p3 := box_cells hx2 3
   have p4 := box_cells hx2 4
   have p5 := box_cells hx2 5
   have pf := box_free hx2 5
   have r0 := blk_cells hy2 0
   have r1 := blk_cells hy2 1
   have r2 := blk_cells hy2 2
   have r3 := blk_cells hy2 3
   have r4 := blk_cells hy2 4
   have r5 := blk_cells hy2 5
   have rf0 := blk_free hy2 0
   have rf1 := blk_free hy2 1
   have rf2 := blk_free hy2 2
   have rf3 := blk_free hy2 3
   have rf4 := blk_free hy2 4
   have rf5 := blk_free hy2 5
   simp only [List.getElem?_toArray, List.getElem?_cons_zero, List.getElem?_cons_succ] at p0 p1 p2 p3 p4 p5 r0 r1 r2 r3 r4 r5
   have hz0 := cell_lt r0
   have hz1 := cell_lt p0
   have HBF := Lib.hid (HW.out.trans (HB.out.mono HW.out.size))
   have hsz := HB.out.size
   clear hlt hx2 hy2 c5 hi
   go_wp2_with fail
   refine bodyPost_ret (v := .agg #[.int .i64 ov.a, .int .i64 ov.b, .int .i64 ov.c, .string ov.p, .bool oy, .slice va k vcap]) (by simp [results, Tryz.results113, go_sem, r0, r1, r2, r3, r4, r5]) rfl ?_
   have hnn := HM.out.2.2
   have hgw := HG.out.wants
   have hfv : FreshV W2.heap.size (.slice va ns'.length vcap) := FreshV.of_owns HG.out.needs
   have hke2 := hke.out
   have keep : ∀ (W : World) (c i : Nat) (u : Value), c < w.heap.size + 2 → Wants W (.slice va ns'.length vcap) ns' → Wants (W.setCell ⟨c, i, none⟩ u) (.slice va ns'.length vcap) ns' := fun W c i u hc hw =>
    hw.grew (fun _ g hg e => by injection e with e; simp only at e; have := own_fresh hfv hg; omega) (fun x hx hn g hg e => by injection e with e; simp only at e; have := own_fresh (HM.out.2.1 x hx hn) hg; omega) (grown_setCell _ _ _)
   refine ⟨⟨ov, oy, ns', va, vcap⟩, by rw [← hnn], ⟨rfl, rfl, ?_⟩, ⟨?_, _, _, rfl⟩, ?_, ⟨hfv.mono (by omega), fun x hx hn => (HM.out.2.1 x hx hn).mono (by omega)⟩⟩
   ·have h := HM.out.1
    rw [List.take_of_length_le hke2] at h
    exact h.symm
   ·exact keep _ _ _ _ (by omega) (keep _ _ _ _ (by omega) (keep _ _ _ _ (by omega) (keep _ _ _ _ (by omega) (keep _ _ _ _ (by omega) (keep _ _ _ _ (by omega) (keep _ _ _ _ (by omega) (by rw [← hnn] at *; exact hgw)))))))
   ·exact ((((((HBF.out.setCell (by show w.heap.size ≤ w.heap.size; omega) _).setCell (by show w.heap.size ≤ w.heap.size + 1; omega) _).setCell (by show w.heap.size ≤ w.heap.size + 1; omega) _).setCell (by show w.heap.size ≤ w.heap.size + 1; omega) _).setCell (by show w.heap.size ≤ w.heap.size + 1; omega) _).setCell (by show w.heap.size ≤ w.heap.size + 1; omega) _).setCell (by show w.heap.size ≤ w.heap.size + 1; omega) _
end Go.Proofs.YtbgimpeklblcjaaGreatDoor

namespace Go
open Go.RowKit
/-- an offer lies there, and in blocks of this kind alone -/
def OffIn (A : Nat → Prop) (w : World) (o : DOff) : Prop := o.ok w ∧ (o.ns ≠ [] → ∀ g, o.nv.ownBlock = some g → A g) ∧ ∀ x ∈ o.ns, x.1.bs ≠ [] → ∀ g, x.2.ownBlock = some g → A g
theorem OffIn.grew {A : Nat → Prop} {w w' : World} {o : DOff} (h : OffIn A w o) {u : Option Nat} (hg : w.grownBy w' u) (hA : ∀ g, A g → u ≠ some g) : OffIn A w' o :=
 ⟨⟨h.1.1.grew (fun hn g hv => hA g (h.2.1 hn g hv)) (fun x hx hn g hv => hA g (h.2.2 x hx hn g hv)) hg, h.1.2⟩, h.2⟩
theorem OffIn.imp {A A' : Nat → Prop} {w : World} {o : DOff} (h : OffIn A w o) (hi : ∀ g, g < w.heap.size → A g → A' g) : OffIn A' w o :=
 ⟨h.1, fun hn g hv => hi g (Row.lt h.1.1.1 (List.length_pos_iff.2 hn) hv) (h.2.1 hn g hv), fun x hx hn g hv => hi g ((h.1.1.2 x hx).lt hn hv) (h.2.2 x hx hn g hv)⟩
theorem OffIn.below {A : Nat → Prop} {w w' : World} {o : DOff} (h : OffIn A w o) (hb : Below w.heap.size w w') : OffIn A w' o := h.grew (grown_none hb) (fun _ _ => by simp)
theorem OffIn.new {B : Nat} {w : World} {o : DOff} (h : o.ok w) (hn : NewNs B o.nv o.ns) : OffIn (fun g => B ≤ g) w o :=
 ⟨h, fun _ _ hv => own_fresh hn.1 hv, fun x hx hne _ hv => own_fresh (hn.2 x hx hne) hv⟩
/-- a package lies there, and in blocks of this kind alone -/
def PackIn (A : Nat → Prop) (w : World) (q : DPack) : Prop := ORow w q.ov q.os ∧ (q.os ≠ [] → ∀ g, q.ov.ownBlock = some g → A g) ∧ ∀ o ∈ q.os, OffIn A w o
theorem PackIn.grew {A : Nat → Prop} {w w' : World} {q : DPack} (h : PackIn A w q) {u : Option Nat} (hg : w.grownBy w' u) (hA : ∀ g, A g → u ≠ some g) : PackIn A w' q :=
 ⟨Row.grew h.1 (fun hn g hv => hA g (h.2.1 (List.length_pos_iff.1 hn) g hv)) hg, h.2.1, fun o ho => (h.2.2 o ho).grew hg hA⟩
theorem PackIn.imp {A A' : Nat → Prop} {w : World} {q : DPack} (h : PackIn A w q) (hi : ∀ g, g < w.heap.size → A g → A' g) : PackIn A' w q :=
 ⟨h.1, fun hn g hv => hi g (Row.lt h.1 (List.length_pos_iff.2 hn) hv) (h.2.1 hn g hv), fun o ho => (h.2.2 o ho).imp hi⟩
theorem PackIn.below {A : Nat → Prop} {w w' : World} {q : DPack} (h : PackIn A w q) (hb : Below w.heap.size w w') : PackIn A w' q := h.grew (grown_none hb) (fun _ _ => by simp)
theorem PackIn.ok {A : Nat → Prop} {w : World} {q : DPack} (h : PackIn A w q) : q.ok w := ⟨⟨h.1, fun o ho => (h.2.2 o ho).1⟩, _, _, rfl⟩
theorem packs_len (ps : List DPack) : (ps.flatMap DPack.cells).length = ps.length * 2 := by
 induction ps with
 | nil => rfl
 | cons p ps ih => rw [List.flatMap_cons, List.length_append, ih, List.length_cons]; simp [DPack.cells]; omega
theorem Packs.of_owns {w : World} {base : Nat} {e : TypeId} {v : Value} {n : Nat} {ps : List DPack} (h : w.ownsRow base e 2 v n (ps.flatMap DPack.cells)) (hq : ∀ q ∈ ps, q.ok w) : Packs w v ps := by
 have h1 : n = ps.length := by have := h.1; rw [packs_len] at this; omega
 subst h1; exact ⟨Row.of_owns h, hq⟩
theorem blk_setCell {w : World} {b : Nat} {cs : Array Value} {T : TypeId} {fr : Nat × Nat} (h : w.heap[b]? = some (.cells cs T fr)) (i : Nat) (u : Value) : (w.setCell ⟨b, i, none⟩ u).heap[b]? = some (.cells (cs.setIfInBounds i u) T fr) := by
 simp only [World.setCell, Array.getElem?_modify, h]
 simp
theorem sel_len {lock : List Pik} {nm : ByteArray} {needs : List (Want × Value)} : ∀ (os out : List DOff), (os.foldl (selStep lock nm needs) out).length ≤ out.length + os.length
 | [], out => by simp
 | o :: os, out => by
  rw [List.foldl_cons]
  have h := sel_len (lock := lock) (nm := nm) (needs := needs) os (selStep lock nm needs out o)
  have h2 : (selStep lock nm needs out o).length ≤ out.length + 1 := by
   unfold selStep; split <;> simp
  simp only [List.length_cons]; omega
theorem ChoiceIs.len {lock : List Pik} {nm : ByteArray} {needs : List (Want × Value)} {os out : List DOff} (h : ChoiceIs lock nm needs os out) : out.length ≤ os.length := by
 rw [h.1.length_eq]; have := sel_len (lock := lock) (nm := nm) (needs := needs) os []; unfold selL; simpa using this
theorem SimOs.snoc {as' bs : List DOff} {a b : DOff} (h : SimOs as' bs) (hs : SimO a b) : SimOs (as' ++ [a]) (bs ++ [b]) := by
 refine ⟨by simp [h.1], fun k h1 h2 => ?_⟩
 by_cases hk : k < as'.length
 ·rw [List.getElem_append_left hk, List.getElem_append_left (by rw [h.1]; exact hk)]
  exact h.2 k hk (by rw [h.1]; exact hk)
 ·have e1 : k = as'.length := by simp at h1; omega
  subst e1
  rw [List.getElem_append_right (Nat.le_refl _), List.getElem_append_right (by rw [h.1]; exact Nat.le_refl _)]
  simpa [h.1] using hs
/-- a row of copies that has grown by one -/
theorem off_step {B : Nat} {e : TypeId} {wr w7 w8 : World} {vO v8 : Value} {n : Nat} {xs : List Value} {os' : List DOff} {o' : DOff} (hrow : wr.ownsRow (B + 1) e 6 vO n xs) (hoi : ∀ o ∈ os', OffIn (fun g => B + 1 ≤ g ∧ vO.ownBlock ≠ some g) wr o)
  (h7 : Below wr.heap.size wr w7) (hnew : OffIn (fun g => wr.heap.size ≤ g) w7 o') (hg8 : w7.grownBy w8 vO.ownBlock) (hk8 : v8.ownBlock = vO.ownBlock ∨ v8.ownBlock = some w7.heap.size) (hB : B + 1 ≤ wr.heap.size) (u : Value) :
  ∀ o ∈ os' ++ [o'], OffIn (fun g => B + 1 ≤ g ∧ v8.ownBlock ≠ some g) (w8.setCell ⟨B, 1, none⟩ u) o := by
 have key : ∀ o, OffIn (fun g => B + 1 ≤ g ∧ vO.ownBlock ≠ some g ∧ v8.ownBlock ≠ some g) w7 o → OffIn (fun g => B + 1 ≤ g ∧ v8.ownBlock ≠ some g) (w8.setCell ⟨B, 1, none⟩ u) o := fun o h =>
  (((h.grew hg8 (fun g hA => hA.2.1)).grew (grown_setCell _ _ _) (fun g hA e => by injection e with e; simp only at e; omega)).imp (fun g _ hA => ⟨hA.1, hA.2.2⟩))
 have hv8 : ∀ g, g < w7.heap.size → vO.ownBlock ≠ some g → v8.ownBlock ≠ some g := fun g hlt hne => by
  rcases hk8 with h | h
  ·rw [h]; exact hne
  ·rw [h]; intro e; injection e with e; omega
 intro o ho
 rcases List.mem_append.1 ho with ho | ho
 ·exact key o (((hoi o ho).below h7).imp (fun g hlt hA => ⟨hA.1, hA.2, hv8 g hlt hA.2⟩))
 ·simp at ho; subst ho
  refine key o (hnew.imp (fun g hlt hA => ?_))
  have h1 : vO.ownBlock ≠ some g := fun e => by have := (hrow.lt g e).2; omega
  exact ⟨by omega, h1, hv8 g hlt h1⟩
/-- a row of packages that has grown by one -/
theorem pack_step {B : Nat} {e : TypeId} {w9 w2 w3 : World} {v v' : Value} {n : Nat} {xs : List Value} {qs : List DPack} {q : DPack} (hrow : w9.ownsRow B e 2 v n xs) (hq : ∀ q ∈ qs, PackIn (fun g => v.ownBlock ≠ some g) w9 q)
  (h1 : Below w9.heap.size w9 w2) (hnew : PackIn (fun g => w9.heap.size ≤ g) w2 q) (hg : w2.grownBy w3 v.ownBlock) (hk : v'.ownBlock = v.ownBlock ∨ v'.ownBlock = some w2.heap.size) :
  ∀ x ∈ qs ++ [q], PackIn (fun g => v'.ownBlock ≠ some g) w3 x := by
 have key : ∀ x, PackIn (fun g => v.ownBlock ≠ some g ∧ v'.ownBlock ≠ some g) w2 x → PackIn (fun g => v'.ownBlock ≠ some g) w3 x := fun x h => (h.grew hg (fun g hA => hA.1)).imp (fun g _ hA => hA.2)
 have hv8 : ∀ g, g < w2.heap.size → v.ownBlock ≠ some g → v'.ownBlock ≠ some g := fun g hlt hne => by
  rcases hk with h | h
  ·rw [h]; exact hne
  ·rw [h]; intro e; injection e with e; omega
 intro x hx
 rcases List.mem_append.1 hx with hx | hx
 ·exact key x (((hq x hx).below h1).imp (fun g hlt hA => ⟨hA, hv8 g hlt hA⟩))
 ·simp at hx; subst hx
  refine key x (hnew.imp (fun g hlt hA => ?_))
  have h1 : v.ownBlock ≠ some g := fun e => by have := (hrow.lt g e).2; omega
  exact ⟨h1, hv8 g hlt h1⟩
/-- what a table's call comes to -/
def TablePost (lock : List Pik) (needs : List (Want × Value)) (ps : List DPack) (w : World) (e : Ending) (w' : World) : Prop :=
 ∃ x qs, e = .returned x ∧ Packs w' x qs ∧ TableIs lock needs ps qs ∧ Below w.heap.size w w' ∧ ∀ q ∈ qs, q.os.length ≤ 1000000
/-- a slice returned has room for what it holds -/
def CapOk (e : Ending) : Prop := ∀ a n c, e = .returned (.slice a n c) → n ≤ c
theorem CapOk.of_owns {w : World} {base size n : Nat} {T : TypeId} {v : Value} {xs : List Value} (h : w.ownsRow base T size v n xs) : CapOk (.returned v) := by
 intro a m c he
 injection he with he
 subst he
 obtain ⟨_, ⟨h1, h2⟩ | ⟨g, cap, cur, h1, _, _, h2, _⟩⟩ := h
 ·injection h1 with e1 e2 e3
  omega
 ·injection h1 with e1 e2 e3
  omega
end Go

namespace Go.Proofs.YtbgimpeklblcjaaGreatDoor
open Go.RowKit Go.Maps
/-- the sorted keys of a map: what is asked of the library -/
def KeysSaid : Prop := ∀ (mb : Option Nat) (W : World), Calls Tryz.prog 112 #[.map mb] W fun e w' => e = .returned (.func (.func 141) #[] #[.pointer (some ⟨W.heap.size, 0, none⟩)]) ∧ w' = W.alloc (.cells #[.map mb] 142)
def SortedSaid : Prop := ∀ (b nn : Nat) (l : List Nam), l.Nodup → ∀ (w : World), w.ownsMap Tryz.prog 9 (plainElem Tryz.prog 3) b nn (idxMap l) → l.length ≤ 1000000 →
  Calls Tryz.prog 111 #[.func (.func 141) #[] #[.pointer (some ⟨w.heap.size, 0, none⟩)]] (w.alloc (.cells #[.map (some b)] 142)) fun e w' => ∃ v, e = .returned v ∧ Strs w' v (l.mergeSort (fun x y => decide (x ≤ y))) ∧ (∃ a cap, v = .slice a l.length cap) ∧ Below w.heap.size w w'
def TnRel (lock : List Pik) (needs : List (Want × Value)) (ps : List DPack) (pk lk nv : Value) (w0 : World) (B : Nat) (i : Value) (wr : World) : Prop :=
 ∃ (k : Nat) (ts : List DPack) (va : Value), k ≤ needs.length ∧ i = .int .i64 (k : Int) ∧ TabInv lock needs ps pk lk nv w0 B wr ts va ∧ GrowsAll (EdgeN lock needs ps) ((needs.take k).map wname) (ts.map pname)
theorem TabCtx.few_os {lock : List Pik} {needs : List (Want × Value)} {ps : List DPack} {pk lk nv : Value} {w0 : World} (C : TabCtx lock needs ps pk lk nv w0) {nm : ByteArray} {out : List DOff} (h : ChoiceIs lock nm needs (findP ps nm).os out) : out.length ≤ 1000000 := by
 have h1 := h.len
 rcases hfp : (ps.find? fun p => decide (p.name = nm)) with _ | p
 ·have : (findP ps nm).os = [] := by unfold findP; rw [hfp]; rfl
  rw [this] at h1; simp only [List.length_nil] at h1; omega
 ·have : findP ps nm = p := by unfold findP; rw [hfp]; rfl
  rw [this] at h1
  exact Nat.le_trans h1 (C.pkos p (List.mem_of_find?_eq_some hfp)).1
theorem TabInv.trans_on {lock : List Pik} {needs : List (Want × Value)} {ps : List DPack} {pk lk nv : Value} {w0 : World} {B : Nat} {w w' : World} {ts : List DPack} {va : Value} (h : TabInv lock needs ps pk lk nv w0 B w ts va) (hb : Below w.heap.size w w') : TabInv lock needs ps pk lk nv w0 B w' ts va := h.on hb
theorem wpList_lookup_at {H : Type} {P : Program} (w : World) {ops : Array Oper} {rest : List Oper} {o : Oper} {a : Act} {Q : Exit → Act → World → Prop}
  (hg : o.guard = none) (m x : Operand) (t : TypeId) (hop : o.op = Op.lookup t m x false)
  (k e : TypeId) (q : IntKind) (K : Keyed P k) (ht : P.underlying t = some (.map k e)) (he : P.underlying e = some (.int q)) (hz : (zeroValue e).run P w = .ok (.int q 0) w) (b n : Nat) (D : DataW H)
  (hm : a.eval m = .map (some b)) (hown : w.ownsMap P k (plainElem P e) b n D) (key : Value) (kl : Lit) (hx : a.eval x = key) (hkey : keyOf P k key = some kl) (c0 : Int) (hat : D.atKey kl (.lit (.int q 0)) = .lit (.int q c0))
  (hK : wpList P ops Q rest (a.put o.dst (.int q c0)) w) :
  wpList P ops Q (o :: rest) a w := wpList_lookup_own_int w hg m x t hop k e q K ht he hz b n D hm hown key kl hx hkey fun c h _ => by
 have h2 := hat.symm.trans h
 injection h2 with h2
 injection h2 with _ h2
 subst h2; exact hK
theorem tab_start (lock : List Pik) (needs : List (Want × Value)) (ps : List DPack) (w : World) (a1 a0 a2 : Option Addr) (n1 n0 n2 cap1 cap0 cap2 : Nat) :
  TabInv lock needs ps (.slice a1 n1 cap1) (.slice a0 n0 cap0) (.slice a2 n2 cap2) w w.heap.size (((((((w.alloc (.cells #[.slice a1 n1 cap1] 22)).alloc (.cells #[.slice a0 n0 cap0] 23)).alloc (.cells #[.slice a2 n2 cap2] 24)).alloc (.map #[] 0)).alloc (.cells #[.map (some (w.heap.size + 1 + 1 + 1))] 142)).alloc (.cells #[.slice none 0 0] 22)).alloc (.cells #[.func (.func 108) #[] #[.pointer (some ⟨w.heap.size + 1 + 1 + 1 + 1, 0, none⟩), .pointer (some ⟨w.heap.size, 0, none⟩), .pointer (some ⟨w.heap.size + 1, 0, none⟩), .pointer (some ⟨w.heap.size + 1 + 1, 0, none⟩), .pointer (some ⟨w.heap.size + 1 + 1 + 1 + 1 + 1, 0, none⟩), .pointer (some ⟨w.heap.size + 1 + 1 + 1 + 1 + 1 + 1, 0, none⟩)]] 143)) [] (.slice none 0 0) := by
 refine ⟨?_, by go_simp, by go_simp, by go_simp, by go_simp, ?_, by unfold reachV; go_simp, ?_, World.ownsRow_nil _ _ _ _, by simp, by simp, by simp, by simp⟩
 ·exact (((((((Below.refl _ _).alloc (by simp) _).alloc (by simp) _).alloc (by simp <;> omega) _).alloc (by simp <;> omega) _).alloc (by simp <;> omega) _).alloc (by simp <;> omega) _).alloc (by simp <;> omega) _
 ·have h := Below_heap_new (((((w.alloc (.cells #[.slice a1 n1 cap1] 22)).alloc (.cells #[.slice a0 n0 cap0] 23)).alloc (.cells #[.slice a2 n2 cap2] 24)).alloc (.map #[] 0)).alloc (.cells #[.map (some (w.heap.size + 1 + 1 + 1))] 142)) (.cells #[.slice none 0 0] 22)
  simp only [World.size_alloc] at h
  exact new_alloc h _
 ·have h := World.ownsMap_made (H := Unit) (((w.alloc (.cells #[.slice a1 n1 cap1] 22)).alloc (.cells #[.slice a0 n0 cap0] 23)).alloc (.cells #[.slice a2 n2 cap2] 24)) Tryz.prog 9 (plainElem Tryz.prog 3)
  simp only [World.size_alloc] at h
  exact ((h.alloc _).alloc _).alloc _
/-- the packages that are made so far -/
def TbRel (L : List Nam) (ts : List DPack) (w8 : World) (v i : Value) (wr : World) : Prop :=
 ∃ (k : Nat) (qs : List DPack), k ≤ L.length ∧ i = .int .i64 (k : Int) ∧ wr.ownsRow w8.heap.size 52 2 v qs.length (qs.flatMap DPack.cells) ∧ Below w8.heap.size w8 wr ∧ qs.map pname = L.take k ∧
  (∀ q ∈ qs, PackIn (fun g => v.ownBlock ≠ some g) wr q) ∧ ∀ q ∈ qs, ∃ t ∈ ts, t.name = q.name ∧ SimOs t.os q.os
/-- the choices that are copied so far -/
def TpRel (nm : ByteArray) (tos : List DOff) (B : Nat) (w0 : World) (i : Value) (wr : World) : Prop :=
 ∃ (j : Nat) (os' : List DOff) (vO : Value), j ≤ tos.length ∧ i = .int .i64 (j : Int) ∧ wr.heap[B]? = some (.cells #[.string nm, vO] 52 (0, 0)) ∧ wr.ownsRow (B + 1) 55 6 vO os'.length (os'.flatMap DOff.cells) ∧
  SimOs (tos.take j) os' ∧ (∀ o ∈ os', OffIn (fun g => B + 1 ≤ g ∧ vO.ownBlock ≠ some g) wr o) ∧ Below B w0 wr
set_option maxRecDepth 100000 in
set_option maxHeartbeats 8000000 in
theorem table_anyW {lock : List Pik} {needs : List (Want × Value)} {ps : List DPack} {pk lk nv : Value} {w : World} (C : TabCtx lock needs ps pk lk nv w) (HKs : KeysSaid) (HSd : SortedSaid) :
  Calls Tryz.prog 79 #[pk, lk, nv] w (fun e w' => TablePost lock needs ps w e w' ∧ CapOk e) := by
 obtain ⟨hmx, a2, cap2, rfl⟩ := C.wants.len
 have hmx2 : needs.length ≤ 9223372036854775807 := Nat.le_trans hmx (by decide)
 obtain ⟨_, a1, cap1, rfl⟩ := C.packs.len
 obtain ⟨a0, cap0, rfl⟩ := C.piks.len
 have HC := Lib.hid C
 have hmm := @run_makeMap Tryz.prog
 clear C hmx
 go_enter Tryz.func79, Tryz.ntmps79
 go_wp2_with fail
 have hI0 := tab_start lock needs ps w a1 a0 a2 ps.length lock.length needs.length cap1 cap0 cap2
 generalize (((((((w.alloc (.cells #[.slice a1 ps.length cap1] 22)).alloc (.cells #[.slice a0 lock.length cap0] 23)).alloc (.cells #[.slice a2 needs.length cap2] 24)).alloc (.map #[] 0)).alloc (.cells #[.map (some (w.heap.size + 1 + 1 + 1))] 142)).alloc (.cells #[.slice none 0 0] 22)).alloc (.cells #[.func (.func 108) #[] #[.pointer (some ⟨w.heap.size + 1 + 1 + 1 + 1, 0, none⟩), .pointer (some ⟨w.heap.size, 0, none⟩), .pointer (some ⟨w.heap.size + 1, 0, none⟩), .pointer (some ⟨w.heap.size + 1 + 1, 0, none⟩), .pointer (some ⟨w.heap.size + 1 + 1 + 1 + 1 + 1, 0, none⟩), .pointer (some ⟨w.heap.size + 1 + 1 + 1 + 1 + 1 + 1, 0, none⟩)]] 143)) = W7 at *
 simp only [Nat.add_assoc, Nat.reduceAdd]
 obtain ⟨B, hB⟩ : ∃ b, w.heap.size = b := ⟨_, rfl⟩
 rw [hB] at hI0 ⊢
 go_loopw [22] (fun i wr => TnRel lock needs ps (.slice a1 ps.length cap1) (.slice a0 lock.length cap0) (.slice a2 needs.length cap2) w B i wr) (fun i _ => needs.length - (intOf i).toNat)
 case atStart => exact ⟨0, [], _, Nat.zero_le _, rfl, hI0, GrowsAll.start⟩
 case round =>
  obtain ⟨k, ts, va, hk, rfl, hI, hG⟩ := hrel
  by_cases hlt : k < needs.length
  ·have i0 : (0 : Int) ≤ (k : Int) := by omega
   have i1 : (k : Int) < (needs.length : Int) := by omega
   have hwn := HC.out.wants.below hI.below (Nat.le_of_eq hB)
   obtain ⟨bn, on, rfl, hbn, d0, d1⟩ := hwn.at' (Below.refl _ _) hlt
   have hnm := List.getElem_mem hlt
   have HT2 := Lib.hid (List.take_succ_eq_append_getElem hlt)
   have hrv := hwn.2 _ hnm
   obtain ⟨⟨xn, xv⟩, hxe⟩ : ∃ x, needs[k] = x := ⟨_, rfl⟩
   rw [hxe] at d0 d1 hnm hrv HT2
   obtain ⟨_, ra, rcap, hrv⟩ := hrv
   simp only at d0 d1 hrv
   subst hrv
   have hsz3 := hI.size
   have hal := (Below.refl wr.heap.size wr).alloc (Nat.le_refl _) (.cells #[.string (S xn.name), .slice ra xn.bs.length rcap] 60)
   have I3 := hI.on hal
   have cRe3 := I3.cRe
   simp only [reachV] at cRe3
   have hxU : xn.name ∈ allNames needs ps := List.mem_append_left _ (List.mem_map.2 ⟨_, hnm, rfl⟩)
   have HCall := Lib.hid (reach_any hB HC.out _ xn.name _ ts va I3 rfl hxU)
   have HG := Lib.hid hG
   clear I3 hxU hI hG hxe hnm hwn hal hI0
   go_wp2_with fail
   refine HCall.out.mono ?_
   rintro e w8 ⟨rfl, ts3, va3, hI3, _, hG3⟩
   go_wp2_with fail
   go_roundw
   case rel =>
    refine ⟨k + 1, ts3, va3, hlt, by go_num, hI3, ?_⟩
    rw [HT2.out, List.map_append]
    exact HG.out.step hG3
   case measure => simp [intOf]; omega
  ·have q6 : decide (k < needs.length) = false := decide_eq_false hlt
   have hke := Lib.hid (Nat.le_of_not_lt hlt)
   have cFd := hI.cFd
   have HGA : Hid (GrowsAll (EdgeN lock needs ps) (needs.map wname) (ts.map pname)) := by
    have h := hG
    rw [List.take_of_length_le hke.out] at h
    exact h
   have hts : (ts.map pname).length ≤ 1000000 := Nat.le_trans (nodup_len hI.nodup (fun x hx => by obtain ⟨t, ht, rfl⟩ := List.mem_map.1 hx; exact hI.names t ht)) HC.out.few
   have HSo := Lib.hid (HSd (B + 3) ts.length (ts.map pname) hI.nodup wr hI.map hts)
   have HI := Lib.hid hI
   clear hlt hG hI hI0
   go_wp2_with fail
   refine (HKs _ _).mono ?_
   rintro e w8 ⟨rfl, rfl⟩
   go_wp2_with fail
   refine HSo.out.mono ?_
   rintro e w8 ⟨v, rfl, hst, ⟨sa, sc, rfl⟩, hb8⟩
   have HI8 := Lib.hid (HI.out.on hb8)
   have hup := sorted_up HI.out.nodup (List.Perm.refl (ts.map pname))
   have hpm : ∀ x, x ∈ (ts.map pname).mergeSort (fun x y => decide (x ≤ y)) ↔ x ∈ ts.map pname := fun x => (List.mergeSort_perm _ _).mem_iff
   have hll := (List.mergeSort_perm (ts.map pname) (fun x y => decide (x ≤ y))).length_eq
   generalize (ts.map pname).mergeSort (fun x y => decide (x ≤ y)) = L at *
   obtain ⟨n, hn⟩ : ∃ n, (ts.map pname).length = n := ⟨_, rfl⟩
   have hLn : L.length = n := by rw [hll, hn]
   have htn : ts.length = n := by rw [← hn]; simp
   rw [hn] at hts ⊢
   have HL := Lib.hid (⟨hup, hpm, hLn, htn⟩ : _ ∧ _ ∧ _ ∧ _)
   have HSt := Lib.hid hst
   have Hb8 := Lib.hid hb8
   clear hup hpm hll hn hLn htn hst HI hb8 HSo cFd
   go_wp2_with fail
   go_loopw [12, 35] (fun v i wr => TbRel L ts w8 v i wr) (fun _ i _ => n - (intOf i).toNat)
   case atStart => exact ⟨0, [], Nat.zero_le _, rfl, World.ownsRow_nil _ _ _ _, Below.refl _ _, by simp, by simp, by simp⟩
   case round =>
    obtain ⟨k, qs, hk, rfl, hown, hb, hnam, hpin, hsim⟩ := hrel
    have HOw := Lib.hid hown
    have HP := Lib.hid (⟨hnam, hpin, hsim⟩ : _ ∧ _ ∧ _)
    have Hb := Lib.hid hb
    rw [HL.out.2.2.1] at hk
    have hql : qs.length = k := by have := congrArg List.length hnam; rw [List.length_map, List.length_take, HL.out.2.2.1] at this; omega
    clear hown hnam hpin hsim
    by_cases hlt : k < n
    ·have i0 : (0 : Int) ≤ (k : Int) := by omega
     have i1 : (k : Int) < (n : Int) := by omega
     have hkL : k < L.length := by rw [HL.out.2.2.1]; exact hlt
     obtain ⟨bs, os, cs, hsl, hbs, hcs⟩ := HSt.out.full (by omega)
     injection hsl with hsl1 hsl2 hsl3
     subst hsl1 hsl3
     have d0 := (hb.cell (p := ⟨bs, os + k, none⟩) hbs).trans (hcs k hkL)
     obtain ⟨nm, hnm⟩ : ∃ x, L[k] = x := ⟨_, rfl⟩
     rw [hnm] at d0
     have hmem : nm ∈ ts.map pname := (HL.out.2.1 nm).1 (by rw [← hnm]; exact List.getElem_mem hkL)
     obtain ⟨ti, hti, htn⟩ := List.getElem_of_mem hmem
     have htl : ti < ts.length := by simpa using hti
     have Ir := HI8.out.on hb
     have HTk := Lib.hid (List.take_succ_eq_append_getElem hkL)
     rw [hnm] at HTk
     have hw1 := (Below.refl wr.heap.size wr).alloc (Nat.le_refl _) (.cells #[.string (S nm), .slice none 0 0] 52)
     have I1 := Ir.on hw1
     have cFd1 := I1.cFd
     have cAl1 := I1.cAl
     have hlen : (S nm).size ≤ maxLen := by rw [S_size]; have := HC.out.names nm (by obtain ⟨t, ht, rfl⟩ := List.mem_map.1 hmem; exact HI8.out.names t ht); unfold maxLen; omega
     have hkey := Lib.hid (WideMaps.keyOf_string_mk (P := Tryz.prog) Tryz.underlying9 hlen)
     have hidx : ∀ z, (idxMap (ts.map pname)).atKey (.string (S nm).data.toList) z = .lit (.int .i64 (ti : Int)) := fun z => by
      have := at_idx (ts.map pname) HI8.out.nodup ti hti z
      rw [htn] at this; exact this
     have HMp := Lib.hid I1.map
     obtain ⟨vg, vcap, rfl⟩ := Joins.ownsRow_form I1.row (by omega)
     have hc1 := World.ownsRow.cellAt I1.row (ti * 2 + 1) (by omega)
     rw [packs_get ts ti htl 1 (by decide)] at hc1
     obtain ⟨⟨tn, tos, toa, toc⟩, hte⟩ : ∃ t, ts[ti] = t := ⟨_, rfl⟩
     rw [hte] at hc1
     simp only [DPack.cells, DPack.ov, List.getElem?_cons_succ, List.getElem?_cons_zero] at hc1
     have htm : (⟨tn, tos, toa, toc⟩ : DPack) ∈ ts := by rw [← hte]; exact List.getElem_mem htl
     have hnt : tn = S nm := by
      have h : pname ts[ti] = nm := by rw [← htn]; simp
      rw [hte] at h
      rw [← h]; exact (S_of _).symm
     subst hnt
     have htol : tos.length ≤ 1000000 := HC.out.few_os (HI8.out.els _ htm).1
     have hsz := Ir.size
     have Htm := Lib.hid htm
     have HTo := Lib.hid htol
     have Hql := Lib.hid hql
     have HIr := Lib.hid Ir
     have hil : (ti : Int) < (ts.length : Int) := by omega
     have hi0 : (0 : Int) ≤ (ti : Int) := by omega
     have hnr := box_cells (Below.refl (wr.heap.size + 1) (wr.alloc (.cells #[.string (S nm), .slice none 0 0] 52)))
     clear hlen hmem hti htn hte htm Ir I1 hcs hnm hsl2 hql hnr
     have hat := Lib.hid (hidx (.lit (.int .i64 0)))
     clear hidx
     go_wp2_with (at_lookup; go_must (refine wpList_lookup_at _ rfl _ _ 142 rfl 9 3 .i64 keyS Tryz.underlying142 Tryz.underlying3 (zeroI _) (B + 3) ts.length _ rfl HMp.out _ _ rfl hkey.out (ti : Int) hat.out ?_))
     go_wp2_with fail
     obtain ⟨w9, rfl⟩ : ∃ x, x = wr := ⟨_, rfl⟩
     go_loopw [49] (fun i wy => TpRel (S nm) tos w9.heap.size w9 i wy) (fun i _ => tos.length - (intOf i).toNat)
     case atStart => exact ⟨0, [], .slice none 0 0, Nat.zero_le _, rfl, Below_heap_new _ _, World.ownsRow_nil _ _ _ _, ⟨rfl, fun k h => absurd h (by simp)⟩, by simp, (Below.refl _ _).alloc (Nat.le_refl _) _⟩
     case round =>
      obtain ⟨j, os', vO, hj, rfl, hblk, hrow, hso, hoi, hb3⟩ := hrel
      have HI3 := Lib.hid (HIr.out.trans_on hb3)
      have HSo := Lib.hid (⟨hso, hoi⟩ : _ ∧ _)
      have HR3 := Lib.hid hrow
      have HB3 := Lib.hid hb3
      have HK3 := Lib.hid hblk
      have hol : os'.length = j := by have := hso.1; rw [List.length_take] at this; omega
      have HOl := Lib.hid hol
      clear hso hoi hol
      by_cases hlt3 : j < tos.length
      ·have j0 : (0 : Int) ≤ (j : Int) := by omega
       have j1 : (j : Int) < (tos.length : Int) := by omega
       have hro : ORow wr (.slice toa tos.length toc) tos := (HI3.out.els _ Htm.out).2.1
       obtain ⟨bx, ox, rfl, hbx, f0, f1, f2, f3, f4, f5⟩ := hro.at' (Below.refl _ _) hlt3
       have HT := Lib.hid (List.take_succ_eq_append_getElem hlt3)
       have hmem := List.getElem_mem hlt3
       obtain ⟨⟨ov, oy, ons, ona, onc⟩, hxe⟩ : ∃ x, tos[j] = x := ⟨_, rfl⟩
       rw [hxe] at f0 f1 f2 f3 f4 f5 HT hmem
       simp only [DOff.nv] at f5
       have hok : DOff.ok w ⟨ov, oy, ons, ona, onc⟩ := HC.out.off (HI3.out.els _ Htm.out).1 hmem
       have hon := HC.out.off2 (HI3.out.els _ Htm.out).1 hmem
       have hbi := HI3.out.below
       have hd5 := Below.refl (wr.heap.size + 1) (wr.alloc (.cells #[.int .i64 ov.a, .int .i64 ov.b, .int .i64 ov.c, .string ov.p, .bool oy, .slice ona ons.length onc] 55))
       have hW17 := below_first hd5
       have d0 := box_cells hd5 0
       have d1 := box_cells hd5 1
       have d2 := box_cells hd5 2
       have d3 := box_cells hd5 3
       have d4 := box_cells hd5 4
       have d5 := box_cells hd5 5
       simp only [List.getElem?_toArray, List.getElem?_cons_zero, List.getElem?_cons_succ] at d0 d1 d2 d3 d4 d5
       have hblk5 := new_alloc HK3.out (.cells #[.int .i64 ov.a, .int .i64 ov.b, .int .i64 ov.c, .string ov.p, .bool oy, .slice ona ons.length onc] 55)
       have HOw5 := Lib.hid (owns_below HR3.out hW17.drew)
       have hb9 := HB3.out.size
       have hbk9 : w9.heap.size < wr.heap.size := by
        rcases Nat.lt_or_ge w9.heap.size wr.heap.size with h | h
        ·exact h
        ·have := HK3.out; rw [Array.getElem?_eq_none h] at this; cases this
       have HCo := Lib.hid (copied_any ⟨ov, oy, ons, ona, onc⟩ _ (hok.below (hbi.trans (hW17.drew.mono (by have := hbi.size; omega))) (Nat.le_of_eq hB)) hon.1 hon.2)
       have HW17 := Lib.hid hW17.drew
       obtain ⟨i0', hi, hz0, hz1, hz2⟩ := info_of info_offer
       have hoj : os'.length ≤ 1000000 := by have := HOl.out; omega
       clear hok hon hbi hd5 hxe hmem hro hW17 hblk hrow hb3
       go_wp2_with fail
       generalize wr.alloc (.cells #[.int .i64 ov.a, .int .i64 ov.b, .int .i64 ov.c, .string ov.p, .bool oy, .slice ona ons.length onc] 55) = W17 at *
       refine wp_region_any (by kernel_rfl) ?_
       change wpAny _ _ _ _ _ _ _ (World.drew _)
       refine wpAny_take (i := 0) (v := ?_) rfl (by kernel_rfl) (by kernel_rfl) (by kernel_rfl) (fun _ _ _ h => h) (Or.inl ⟨by kernel_rfl, ?_⟩) ?_
       rotate_left
       ·(intro W; go_simp; (try with_reducible rfl))
       (try simp only [Act.put, putL])
       refine wpAny_ready (rs := [1, 2]) (by kernel_rfl) (by simp) ?_
       refine AllReady.cons rfl (fun K hK0 => ?_) (AllReady.cons rfl (fun K hK0 => ?_) (AllReady.nil))
       ·have HK := Lib.hid hK0
        clear hK0
        have e1 := blk_cells hblk5 1
        simp only [List.getElem?_toArray, List.getElem?_cons_zero, List.getElem?_cons_succ] at e1
        go_simp
        refine HK.out _ _ ?_
        clear HK K
        (try simp only [Act.put, putL])
        refine wpAny_ready (rs := [2]) (by kernel_rfl) (by simp) ?_
        refine AllReady.cons rfl (fun K hK0 => ?_) (AllReady.nil)
        have HK := Lib.hid hK0
        clear hK0
        go_simp
        refine HK.out _ _ ?_
        clear HK K
        (try simp only [Act.put, putL])
        refine wpAny_ready (rs := [3]) (by kernel_rfl) (by simp) ?_
        refine AllReady.cons rfl (fun K hK0 => ?_) (AllReady.nil)
        have HK := Lib.hid hK0
        clear hK0
        go_simp
        refine HCo.out.mono ?_
        rintro e w6 ⟨o', rfl, hsim, hok6, hk6, hnew⟩
        obtain ⟨pv, py, qns, qa, qc⟩ := o'
        obtain ⟨hs1, hs2, hnsm⟩ := hsim
        dsimp only at hs1 hs2 hnsm hok6 hnew ⊢
        subst hs1 hs2
        obtain ⟨qn, hqn⟩ : ∃ n, qns.length = n := ⟨_, rfl⟩
        rw [hqn]
        have HQ := Lib.hid (⟨hok6, hnew, hnsm, hqn⟩ : _ ∧ _ ∧ _ ∧ _)
        have HOw6 := Lib.hid (owns_below HOw5.out hk6)
        have hblk6 := (hk6.block w9.heap.size (by show w9.heap.size < W17.heap.size; have := HW17.out.size; simp at this; omega)).trans hblk5
        have HK6 := Lib.hid hk6
        clear hok6 hnew hnsm hqn hk6
        refine HK.out _ _ ?_
        clear HK K
        (try simp only [Act.put, putL])
        refine wpAny_ready (rs := [4]) (by kernel_rfl) (by simp) ?_
        refine AllReady.cons rfl (fun K hK0 => ?_) (AllReady.nil)
        have HK := Lib.hid hK0
        clear hK0
        go_simp
        have hblk7 := new_alloc hblk6 (.cells #[.int .i64 ov.a, .int .i64 ov.b, .int .i64 ov.c, .string ov.p, .bool oy, .slice qa qn qc] 55)
        refine HK.out _ _ ?_
        clear HK K
        (try simp only [Act.put, putL])
        refine wpAny_ready (rs := [5]) (by kernel_rfl) (by simp) ?_
        refine AllReady.cons rfl (fun K hK0 => ?_) (AllReady.nil)
        have HK := Lib.hid hK0
        clear hK0
        have hz6 : w9.heap.size + 1 ≤ w6.heap.size := by have := HK6.out.size; have h2 := HW17.out.size; simp at this h2; omega
        refine step_append_ats (by rfl) (.tmp 54) (.tmp 57) 50 (by rfl) (w9.heap.size + 1) 55 i0' (.agg #[.int .i64 0, .int .i64 0, .int .i64 0, .string ⟨#[]⟩, .bool false, .slice none 0 0]) 6 72 Tryz.underlying50 hi hz0 hz1 hz2 rfl (by decide) vO os'.length (os'.flatMap DOff.cells) (by simp [Act.eval]) (HOw6.out.alloc _) ⟨w6.heap.size, 0, none⟩ 1 1 [.int .i64 ov.a, .int .i64 ov.b, .int .i64 ov.c, .string ov.p, .bool oy, .slice qa qn qc] (by simp [Act.eval]) rfl (row6_at _ _ rfl _ _ _ _ _ _ _) (by intro u hu; simp at hu; rcases hu with rfl | rfl | rfl | rfl | rfl | rfl <;> rfl) (by unfold maxLen; omega) (by omega) (by simp; omega) ?_
        intro v8 w8' hown8 hg8 hk8
        obtain ⟨g8, cap8, hv8⟩ := Joins.ownsRow_form hown8 (by omega)
        subst hv8
        have hblk8 := (hg8.block w9.heap.size (by simp; omega) (fun e => by have := (HR3.out.lt _ e.symm).1; omega)).trans hblk7
        have HG8 := Lib.hid (⟨hown8, hg8, hk8⟩ : _ ∧ _ ∧ _)
        clear hown8 hg8 hk8
        refine HK.out _ _ ?_
        clear HK K
        (try simp only [Act.put, putL])
        refine wpAny_take (i := 6) (v := ?_) rfl (by kernel_rfl) (by kernel_rfl) (by kernel_rfl) (fun _ _ _ h => h) (Or.inl ⟨by kernel_rfl, ?_⟩) ?_
        rotate_left
        ·(intro W; go_simp; (try with_reducible rfl))
        (try simp only [Act.put, putL])
        refine wpAny_ready (rs := [7]) (by kernel_rfl) (by simp) ?_
        refine AllReady.cons rfl (fun K hK0 => ?_) (AllReady.nil)
        have HK := Lib.hid hK0
        clear hK0
        have c8 := blk_cells hblk8 1
        have f8 := blk_free hblk8 1
        simp only [List.getElem?_toArray, List.getElem?_cons_zero, List.getElem?_cons_succ] at c8
        go_simp
        refine HK.out _ _ ?_
        clear HK K
        (try simp only [Act.put, putL])
        refine wpAny_done (by kernel_rfl) ?_ _
        have HBl := Lib.hid hblk8
        clear c8 f8 hblk8 hblk7 hblk6 hblk5 e1
        go_wp2
        go_roundw
        case rel =>
         obtain ⟨hown8, hg8, hk8⟩ := HG8.out
         obtain ⟨hok6, hnew, hnsm, hqn⟩ := HQ.out
         have hal7 := (Below.refl w6.heap.size w6).alloc (Nat.le_refl _) (.cells #[.int .i64 ov.a, .int .i64 ov.b, .int .i64 ov.c, .string ov.p, .bool oy, .slice qa qn qc] 55)
         have h67 := HK6.out.trans (hal7.mono HK6.out.size)
         have h7 := HW17.out.trans (h67.mono HW17.out.size)
         have ho7 := off_step (o' := ⟨ov, oy, qns, qa, qc⟩) HR3.out HSo.out.2 h7 ((OffIn.new hok6 (hnew.mono HW17.out.size)).below hal7) hg8 hk8 hbk9 (.slice (some ⟨g8, 0, none⟩) (os'.length + 1) cap8)
         have hgb := (hown8.lt g8 rfl).1
         refine ⟨j + 1, os' ++ [⟨ov, oy, qns, qa, qc⟩], .slice (some ⟨g8, 0, none⟩) (os'.length + 1) cap8, hlt3, by go_num, ?_, ?_, ?_, ho7, ?_⟩
         ·simpa using blk_setCell HBl.out 1 (.slice (some ⟨g8, 0, none⟩) (os'.length + 1) cap8)
         ·rw [List.flatMap_append, List.length_append]
          refine ownsRow_setCell_other ?_ (fun e => by injection e with e; simp only at e; omega) _
          rw [← hqn] at hown8
          exact hown8
         ·rw [HT.out]; exact HSo.out.1.snoc ⟨rfl, rfl, hnsm⟩
         ·have h9 := (HB3.out.trans (h7.mono (by omega)))
          exact (h9.grown hg8 h9.size (fun q hq => by have := (HR3.out.lt _ hq).1; omega)).setCell (Nat.le_refl _) _
        case measure => simp [intOf]; omega
       ·have HK := Lib.hid hK0
        clear hK0
        go_simp
        refine HK.out _ _ ?_
        clear HK K
        (try simp only [Act.put, putL])
        refine wpAny_ready (rs := [1, 3]) (by kernel_rfl) (by simp) ?_
        refine AllReady.cons rfl (fun K hK0 => ?_) (AllReady.cons rfl (fun K hK0 => ?_) (AllReady.nil))
        ·have HK := Lib.hid hK0
         clear hK0
         have e1 := blk_cells hblk5 1
         simp only [List.getElem?_toArray, List.getElem?_cons_zero, List.getElem?_cons_succ] at e1
         go_simp
         refine HK.out _ _ ?_
         clear HK K
         (try simp only [Act.put, putL])
         refine wpAny_ready (rs := [3]) (by kernel_rfl) (by simp) ?_
         refine AllReady.cons rfl (fun K hK0 => ?_) (AllReady.nil)
         have HK := Lib.hid hK0
         clear hK0
         go_simp
         refine HCo.out.mono ?_
         rintro e w6 ⟨o', rfl, hsim, hok6, hk6, hnew⟩
         obtain ⟨pv, py, qns, qa, qc⟩ := o'
         obtain ⟨hs1, hs2, hnsm⟩ := hsim
         dsimp only at hs1 hs2 hnsm hok6 hnew ⊢
         subst hs1 hs2
         obtain ⟨qn, hqn⟩ : ∃ n, qns.length = n := ⟨_, rfl⟩
         rw [hqn]
         have HQ := Lib.hid (⟨hok6, hnew, hnsm, hqn⟩ : _ ∧ _ ∧ _ ∧ _)
         have HOw6 := Lib.hid (owns_below HOw5.out hk6)
         have hblk6 := (hk6.block w9.heap.size (by show w9.heap.size < W17.heap.size; have := HW17.out.size; simp at this; omega)).trans hblk5
         have HK6 := Lib.hid hk6
         clear hok6 hnew hnsm hqn hk6
         refine HK.out _ _ ?_
         clear HK K
         (try simp only [Act.put, putL])
         refine wpAny_ready (rs := [4]) (by kernel_rfl) (by simp) ?_
         refine AllReady.cons rfl (fun K hK0 => ?_) (AllReady.nil)
         have HK := Lib.hid hK0
         clear hK0
         go_simp
         have hblk7 := new_alloc hblk6 (.cells #[.int .i64 ov.a, .int .i64 ov.b, .int .i64 ov.c, .string ov.p, .bool oy, .slice qa qn qc] 55)
         refine HK.out _ _ ?_
         clear HK K
         (try simp only [Act.put, putL])
         refine wpAny_ready (rs := [5]) (by kernel_rfl) (by simp) ?_
         refine AllReady.cons rfl (fun K hK0 => ?_) (AllReady.nil)
         have HK := Lib.hid hK0
         clear hK0
         have hz6 : w9.heap.size + 1 ≤ w6.heap.size := by have := HK6.out.size; have h2 := HW17.out.size; simp at this h2; omega
         refine step_append_ats (by rfl) (.tmp 54) (.tmp 57) 50 (by rfl) (w9.heap.size + 1) 55 i0' (.agg #[.int .i64 0, .int .i64 0, .int .i64 0, .string ⟨#[]⟩, .bool false, .slice none 0 0]) 6 72 Tryz.underlying50 hi hz0 hz1 hz2 rfl (by decide) vO os'.length (os'.flatMap DOff.cells) (by simp [Act.eval]) (HOw6.out.alloc _) ⟨w6.heap.size, 0, none⟩ 1 1 [.int .i64 ov.a, .int .i64 ov.b, .int .i64 ov.c, .string ov.p, .bool oy, .slice qa qn qc] (by simp [Act.eval]) rfl (row6_at _ _ rfl _ _ _ _ _ _ _) (by intro u hu; simp at hu; rcases hu with rfl | rfl | rfl | rfl | rfl | rfl <;> rfl) (by unfold maxLen; omega) (by omega) (by simp; omega) ?_
         intro v8 w8' hown8 hg8 hk8
         obtain ⟨g8, cap8, hv8⟩ := Joins.ownsRow_form hown8 (by omega)
         subst hv8
         have hblk8 := (hg8.block w9.heap.size (by simp; omega) (fun e => by have := (HR3.out.lt _ e.symm).1; omega)).trans hblk7
         have HG8 := Lib.hid (⟨hown8, hg8, hk8⟩ : _ ∧ _ ∧ _)
         clear hown8 hg8 hk8
         refine HK.out _ _ ?_
         clear HK K
         (try simp only [Act.put, putL])
         refine wpAny_take (i := 6) (v := ?_) rfl (by kernel_rfl) (by kernel_rfl) (by kernel_rfl) (fun _ _ _ h => h) (Or.inl ⟨by kernel_rfl, ?_⟩) ?_
         rotate_left
         ·(intro W; go_simp; (try with_reducible rfl))
         (try simp only [Act.put, putL])
         refine wpAny_ready (rs := [7]) (by kernel_rfl) (by simp) ?_
         refine AllReady.cons rfl (fun K hK0 => ?_) (AllReady.nil)
         have HK := Lib.hid hK0
         clear hK0
         have c8 := blk_cells hblk8 1
         have f8 := blk_free hblk8 1
         simp only [List.getElem?_toArray, List.getElem?_cons_zero, List.getElem?_cons_succ] at c8
         go_simp
         refine HK.out _ _ ?_
         clear HK K
         (try simp only [Act.put, putL])
         refine wpAny_done (by kernel_rfl) ?_ _
         have HBl := Lib.hid hblk8
         clear c8 f8 hblk8 hblk7 hblk6 hblk5 e1
         go_wp2
         go_roundw
         case rel =>
          obtain ⟨hown8, hg8, hk8⟩ := HG8.out
          obtain ⟨hok6, hnew, hnsm, hqn⟩ := HQ.out
          have hal7 := (Below.refl w6.heap.size w6).alloc (Nat.le_refl _) (.cells #[.int .i64 ov.a, .int .i64 ov.b, .int .i64 ov.c, .string ov.p, .bool oy, .slice qa qn qc] 55)
          have h67 := HK6.out.trans (hal7.mono HK6.out.size)
          have h7 := HW17.out.trans (h67.mono HW17.out.size)
          have ho7 := off_step (o' := ⟨ov, oy, qns, qa, qc⟩) HR3.out HSo.out.2 h7 ((OffIn.new hok6 (hnew.mono HW17.out.size)).below hal7) hg8 hk8 hbk9 (.slice (some ⟨g8, 0, none⟩) (os'.length + 1) cap8)
          have hgb := (hown8.lt g8 rfl).1
          refine ⟨j + 1, os' ++ [⟨ov, oy, qns, qa, qc⟩], .slice (some ⟨g8, 0, none⟩) (os'.length + 1) cap8, hlt3, by go_num, ?_, ?_, ?_, ho7, ?_⟩
          ·simpa using blk_setCell HBl.out 1 (.slice (some ⟨g8, 0, none⟩) (os'.length + 1) cap8)
          ·rw [List.flatMap_append, List.length_append]
           refine ownsRow_setCell_other ?_ (fun e => by injection e with e; simp only at e; omega) _
           rw [← hqn] at hown8
           exact hown8
          ·rw [HT.out]; exact HSo.out.1.snoc ⟨rfl, rfl, hnsm⟩
          ·have h9 := (HB3.out.trans (h7.mono (by omega)))
           exact (h9.grown hg8 h9.size (fun q hq => by have := (HR3.out.lt _ hq).1; omega)).setCell (Nat.le_refl _) _
         case measure => simp [intOf]; omega
        ·have HK := Lib.hid hK0
         clear hK0
         go_simp
         refine HCo.out.mono ?_
         rintro e w6 ⟨o', rfl, hsim, hok6, hk6, hnew⟩
         obtain ⟨pv, py, qns, qa, qc⟩ := o'
         obtain ⟨hs1, hs2, hnsm⟩ := hsim
         dsimp only at hs1 hs2 hnsm hok6 hnew ⊢
         subst hs1 hs2
         obtain ⟨qn, hqn⟩ : ∃ n, qns.length = n := ⟨_, rfl⟩
         rw [hqn]
         have HQ := Lib.hid (⟨hok6, hnew, hnsm, hqn⟩ : _ ∧ _ ∧ _ ∧ _)
         have HOw6 := Lib.hid (owns_below HOw5.out hk6)
         have hblk6 := (hk6.block w9.heap.size (by show w9.heap.size < W17.heap.size; have := HW17.out.size; simp at this; omega)).trans hblk5
         have HK6 := Lib.hid hk6
         clear hok6 hnew hnsm hqn hk6
         refine HK.out _ _ ?_
         clear HK K
         (try simp only [Act.put, putL])
         refine wpAny_ready (rs := [1, 4]) (by kernel_rfl) (by simp) ?_
         refine AllReady.cons rfl (fun K hK0 => ?_) (AllReady.cons rfl (fun K hK0 => ?_) (AllReady.nil))
         ·have HK := Lib.hid hK0
          clear hK0
          have e1 := blk_cells hblk6 1
          simp only [List.getElem?_toArray, List.getElem?_cons_zero, List.getElem?_cons_succ] at e1
          go_simp
          refine HK.out _ _ ?_
          clear HK K
          (try simp only [Act.put, putL])
          refine wpAny_ready (rs := [4]) (by kernel_rfl) (by simp) ?_
          refine AllReady.cons rfl (fun K hK0 => ?_) (AllReady.nil)
          have HK := Lib.hid hK0
          clear hK0
          go_simp
          have hblk7 := new_alloc hblk6 (.cells #[.int .i64 ov.a, .int .i64 ov.b, .int .i64 ov.c, .string ov.p, .bool oy, .slice qa qn qc] 55)
          refine HK.out _ _ ?_
          clear HK K
          (try simp only [Act.put, putL])
          refine wpAny_ready (rs := [5]) (by kernel_rfl) (by simp) ?_
          refine AllReady.cons rfl (fun K hK0 => ?_) (AllReady.nil)
          have HK := Lib.hid hK0
          clear hK0
          have hz6 : w9.heap.size + 1 ≤ w6.heap.size := by have := HK6.out.size; have h2 := HW17.out.size; simp at this h2; omega
          refine step_append_ats (by rfl) (.tmp 54) (.tmp 57) 50 (by rfl) (w9.heap.size + 1) 55 i0' (.agg #[.int .i64 0, .int .i64 0, .int .i64 0, .string ⟨#[]⟩, .bool false, .slice none 0 0]) 6 72 Tryz.underlying50 hi hz0 hz1 hz2 rfl (by decide) vO os'.length (os'.flatMap DOff.cells) (by simp [Act.eval]) (HOw6.out.alloc _) ⟨w6.heap.size, 0, none⟩ 1 1 [.int .i64 ov.a, .int .i64 ov.b, .int .i64 ov.c, .string ov.p, .bool oy, .slice qa qn qc] (by simp [Act.eval]) rfl (row6_at _ _ rfl _ _ _ _ _ _ _) (by intro u hu; simp at hu; rcases hu with rfl | rfl | rfl | rfl | rfl | rfl <;> rfl) (by unfold maxLen; omega) (by omega) (by simp; omega) ?_
          intro v8 w8' hown8 hg8 hk8
          obtain ⟨g8, cap8, hv8⟩ := Joins.ownsRow_form hown8 (by omega)
          subst hv8
          have hblk8 := (hg8.block w9.heap.size (by simp; omega) (fun e => by have := (HR3.out.lt _ e.symm).1; omega)).trans hblk7
          have HG8 := Lib.hid (⟨hown8, hg8, hk8⟩ : _ ∧ _ ∧ _)
          clear hown8 hg8 hk8
          refine HK.out _ _ ?_
          clear HK K
          (try simp only [Act.put, putL])
          refine wpAny_take (i := 6) (v := ?_) rfl (by kernel_rfl) (by kernel_rfl) (by kernel_rfl) (fun _ _ _ h => h) (Or.inl ⟨by kernel_rfl, ?_⟩) ?_
          rotate_left
          ·(intro W; go_simp; (try with_reducible rfl))
          (try simp only [Act.put, putL])
          refine wpAny_ready (rs := [7]) (by kernel_rfl) (by simp) ?_
          refine AllReady.cons rfl (fun K hK0 => ?_) (AllReady.nil)
          have HK := Lib.hid hK0
          clear hK0
          have c8 := blk_cells hblk8 1
          have f8 := blk_free hblk8 1
          simp only [List.getElem?_toArray, List.getElem?_cons_zero, List.getElem?_cons_succ] at c8
          go_simp
          refine HK.out _ _ ?_
          clear HK K
          (try simp only [Act.put, putL])
          refine wpAny_done (by kernel_rfl) ?_ _
          have HBl := Lib.hid hblk8
          clear c8 f8 hblk8 hblk7 hblk6 hblk5 e1
          go_wp2
          go_roundw
          case rel =>
           obtain ⟨hown8, hg8, hk8⟩ := HG8.out
           obtain ⟨hok6, hnew, hnsm, hqn⟩ := HQ.out
           have hal7 := (Below.refl w6.heap.size w6).alloc (Nat.le_refl _) (.cells #[.int .i64 ov.a, .int .i64 ov.b, .int .i64 ov.c, .string ov.p, .bool oy, .slice qa qn qc] 55)
           have h67 := HK6.out.trans (hal7.mono HK6.out.size)
           have h7 := HW17.out.trans (h67.mono HW17.out.size)
           have ho7 := off_step (o' := ⟨ov, oy, qns, qa, qc⟩) HR3.out HSo.out.2 h7 ((OffIn.new hok6 (hnew.mono HW17.out.size)).below hal7) hg8 hk8 hbk9 (.slice (some ⟨g8, 0, none⟩) (os'.length + 1) cap8)
           have hgb := (hown8.lt g8 rfl).1
           refine ⟨j + 1, os' ++ [⟨ov, oy, qns, qa, qc⟩], .slice (some ⟨g8, 0, none⟩) (os'.length + 1) cap8, hlt3, by go_num, ?_, ?_, ?_, ho7, ?_⟩
           ·simpa using blk_setCell HBl.out 1 (.slice (some ⟨g8, 0, none⟩) (os'.length + 1) cap8)
           ·rw [List.flatMap_append, List.length_append]
            refine ownsRow_setCell_other ?_ (fun e => by injection e with e; simp only at e; omega) _
            rw [← hqn] at hown8
            exact hown8
           ·rw [HT.out]; exact HSo.out.1.snoc ⟨rfl, rfl, hnsm⟩
           ·have h9 := (HB3.out.trans (h7.mono (by omega)))
            exact (h9.grown hg8 h9.size (fun q hq => by have := (HR3.out.lt _ hq).1; omega)).setCell (Nat.le_refl _) _
          case measure => simp [intOf]; omega
         ·have HK := Lib.hid hK0
          clear hK0
          go_simp
          have hblk7 := new_alloc hblk6 (.cells #[.int .i64 ov.a, .int .i64 ov.b, .int .i64 ov.c, .string ov.p, .bool oy, .slice qa qn qc] 55)
          refine HK.out _ _ ?_
          clear HK K
          (try simp only [Act.put, putL])
          refine wpAny_ready (rs := [1]) (by kernel_rfl) (by simp) ?_
          refine AllReady.cons rfl (fun K hK0 => ?_) (AllReady.nil)
          have HK := Lib.hid hK0
          clear hK0
          have e1 := blk_cells hblk7 1
          simp only [List.getElem?_toArray, List.getElem?_cons_zero, List.getElem?_cons_succ] at e1
          go_simp
          refine HK.out _ _ ?_
          clear HK K
          (try simp only [Act.put, putL])
          refine wpAny_ready (rs := [5]) (by kernel_rfl) (by simp) ?_
          refine AllReady.cons rfl (fun K hK0 => ?_) (AllReady.nil)
          have HK := Lib.hid hK0
          clear hK0
          have hz6 : w9.heap.size + 1 ≤ w6.heap.size := by have := HK6.out.size; have h2 := HW17.out.size; simp at this h2; omega
          refine step_append_ats (by rfl) (.tmp 54) (.tmp 57) 50 (by rfl) (w9.heap.size + 1) 55 i0' (.agg #[.int .i64 0, .int .i64 0, .int .i64 0, .string ⟨#[]⟩, .bool false, .slice none 0 0]) 6 72 Tryz.underlying50 hi hz0 hz1 hz2 rfl (by decide) vO os'.length (os'.flatMap DOff.cells) (by simp [Act.eval]) (HOw6.out.alloc _) ⟨w6.heap.size, 0, none⟩ 1 1 [.int .i64 ov.a, .int .i64 ov.b, .int .i64 ov.c, .string ov.p, .bool oy, .slice qa qn qc] (by simp [Act.eval]) rfl (row6_at _ _ rfl _ _ _ _ _ _ _) (by intro u hu; simp at hu; rcases hu with rfl | rfl | rfl | rfl | rfl | rfl <;> rfl) (by unfold maxLen; omega) (by omega) (by simp; omega) ?_
          intro v8 w8' hown8 hg8 hk8
          obtain ⟨g8, cap8, hv8⟩ := Joins.ownsRow_form hown8 (by omega)
          subst hv8
          have hblk8 := (hg8.block w9.heap.size (by simp; omega) (fun e => by have := (HR3.out.lt _ e.symm).1; omega)).trans hblk7
          have HG8 := Lib.hid (⟨hown8, hg8, hk8⟩ : _ ∧ _ ∧ _)
          clear hown8 hg8 hk8
          refine HK.out _ _ ?_
          clear HK K
          (try simp only [Act.put, putL])
          refine wpAny_take (i := 6) (v := ?_) rfl (by kernel_rfl) (by kernel_rfl) (by kernel_rfl) (fun _ _ _ h => h) (Or.inl ⟨by kernel_rfl, ?_⟩) ?_
          rotate_left
          ·(intro W; go_simp; (try with_reducible rfl))
          (try simp only [Act.put, putL])
          refine wpAny_ready (rs := [7]) (by kernel_rfl) (by simp) ?_
          refine AllReady.cons rfl (fun K hK0 => ?_) (AllReady.nil)
          have HK := Lib.hid hK0
          clear hK0
          have c8 := blk_cells hblk8 1
          have f8 := blk_free hblk8 1
          simp only [List.getElem?_toArray, List.getElem?_cons_zero, List.getElem?_cons_succ] at c8
          go_simp
          refine HK.out _ _ ?_
          clear HK K
          (try simp only [Act.put, putL])
          refine wpAny_done (by kernel_rfl) ?_ _
          have HBl := Lib.hid hblk8
          clear c8 f8 hblk8 hblk7 hblk6 hblk5 e1
          go_wp2
          go_roundw
          case rel =>
           obtain ⟨hown8, hg8, hk8⟩ := HG8.out
           obtain ⟨hok6, hnew, hnsm, hqn⟩ := HQ.out
           have hal7 := (Below.refl w6.heap.size w6).alloc (Nat.le_refl _) (.cells #[.int .i64 ov.a, .int .i64 ov.b, .int .i64 ov.c, .string ov.p, .bool oy, .slice qa qn qc] 55)
           have h67 := HK6.out.trans (hal7.mono HK6.out.size)
           have h7 := HW17.out.trans (h67.mono HW17.out.size)
           have ho7 := off_step (o' := ⟨ov, oy, qns, qa, qc⟩) HR3.out HSo.out.2 h7 ((OffIn.new hok6 (hnew.mono HW17.out.size)).below hal7) hg8 hk8 hbk9 (.slice (some ⟨g8, 0, none⟩) (os'.length + 1) cap8)
           have hgb := (hown8.lt g8 rfl).1
           refine ⟨j + 1, os' ++ [⟨ov, oy, qns, qa, qc⟩], .slice (some ⟨g8, 0, none⟩) (os'.length + 1) cap8, hlt3, by go_num, ?_, ?_, ?_, ho7, ?_⟩
           ·simpa using blk_setCell HBl.out 1 (.slice (some ⟨g8, 0, none⟩) (os'.length + 1) cap8)
           ·rw [List.flatMap_append, List.length_append]
            refine ownsRow_setCell_other ?_ (fun e => by injection e with e; simp only at e; omega) _
            rw [← hqn] at hown8
            exact hown8
           ·rw [HT.out]; exact HSo.out.1.snoc ⟨rfl, rfl, hnsm⟩
           ·have h9 := (HB3.out.trans (h7.mono (by omega)))
            exact (h9.grown hg8 h9.size (fun q hq => by have := (HR3.out.lt _ hq).1; omega)).setCell (Nat.le_refl _) _
          case measure => simp [intOf]; omega
      ·have q8 : decide (j < tos.length) = false := decide_eq_false hlt3
       have hje := Lib.hid (Nat.le_of_not_lt hlt3)
       obtain ⟨voa, voc, rfl⟩ := owns_len hrow
       have c0 := blk_cells HK3.out 0
       have c1 := blk_cells HK3.out 1
       simp only [List.getElem?_toArray, List.getElem?_cons_zero, List.getElem?_cons_succ] at c0 c1
       have hbk9 := cell_lt c0
       obtain ⟨vka, vkc, rfl⟩ := owns_len HOw.out
       have HOr := Lib.hid (owns_below HOw.out hb3)
       obtain ⟨i1', hi, hz0, hz1, hz2⟩ := info_of info_pack
       have hqs : qs.length ≤ 1000000 := by have := Hql.out; omega
       have hwr := Hb.out.size
       have hwr3 := hb3.size
       have HSm : Hid (SimOs tos os') := by have h := HSo.out.1; rw [List.take_of_length_le hje.out] at h; exact h
       clear hblk hrow hlt3 hb3
       go_wp2_with (at_builtin; go_must (refine wpList_append_own_at _ rfl _ _ 22 rfl w8.heap.size 52 i1' (.agg #[.string ⟨#[]⟩, .slice none 0 0]) 2 40 Tryz.underlying22 hi hz0 hz1 hz2 rfl (by decide) _ _ _ rfl (HOr.out.alloc _) ⟨_, 0, none⟩ 1 1 [.string (S nm), .slice voa os'.length voc] rfl rfl (pack2_at _ _ (by simp) _ _ _) (by intro u hu; simp at hu; rcases hu with rfl | rfl <;> rfl) (by unfold maxLen; omega) (by omega) (by simp; omega) ?_))
       intro v6 w6 hown6 hg6 _ hl6
       obtain ⟨g6, cap6, hv6⟩ := Joins.ownsRow_form hown6 (by omega)
       subst hv6
       have HG6 := Lib.hid (⟨hown6, hg6, hl6⟩ : _ ∧ _ ∧ _)
       clear hown6 hg6 hl6 c0 c1
       go_wp2
       go_roundw
       case rel =>
        obtain ⟨hown6, hg6, hl6⟩ := HG6.out
        obtain ⟨hnam, hpin, hsim⟩ := HP.out
        have hal := (Below.refl wr.heap.size wr).alloc (Nat.le_refl _) (.cells #[.string (S nm), .slice voa os'.length voc] 52)
        have h1 := HB3.out.trans (hal.mono HB3.out.size)
        have hnew : PackIn (fun g => w9.heap.size ≤ g) wr ⟨S nm, os', voa, voc⟩ :=
         ⟨ORow.of_owns HR3.out, fun _ g hg => by have := (HR3.out.lt g hg).1; omega, fun o ho => (HSo.out.2 o ho).imp (fun g _ hA => by have := hA.1; omega)⟩
        refine ⟨k + 1, qs ++ [⟨S nm, os', voa, voc⟩], by rw [HL.out.2.2.1]; exact hlt, by go_num, ?_, ?_, ?_, pack_step HOw.out hpin h1 (hnew.below hal) hg6 (by simpa using hl6), ?_⟩
        ·rw [List.flatMap_append, List.length_append]; exact hown6
        ·exact below_grown (Hb.out.trans (h1.mono Hb.out.size)) (HOr.out.alloc _) hg6 (by simp; omega)
        ·rw [List.map_append, hnam, HTk.out]; rfl
        ·intro q hq
         rcases List.mem_append.1 hq with hq | hq
         ·exact hsim q hq
         ·simp at hq; subst hq
          exact ⟨_, Htm.out, rfl, HSm.out⟩
       case measure => simp [intOf]; omega
    ·have q9 : decide (k < n) = false := decide_eq_false hlt
     have hke2 := Lib.hid (Nat.le_of_not_lt hlt)
     have HPost : Hid (TablePost lock needs ps w (.returned u12) wr ∧ CapOk (.returned u12)) := by
      obtain ⟨hnam, hpin, hsim⟩ := HP.out
      obtain ⟨hup, hpm, hLn, _⟩ := HL.out
      rw [List.take_of_length_le (by rw [hLn]; exact hke2.out)] at hnam
      refine ⟨⟨u12, qs, rfl, Packs.of_owns HOw.out (fun q hq => (hpin q hq).ok), ⟨by rw [hnam]; exact hup, fun a => ?_, fun q hq => ?_⟩, ?_, fun q hq => ?_⟩, CapOk.of_owns HOw.out⟩
      ·rw [hnam, hpm]; exact HGA.out.iff a
      ·obtain ⟨t, ht, hn, hs⟩ := hsim q hq
       have h := (HI8.out.els t ht).1
       rw [hn] at h
       exact ⟨t.os, h, hs⟩
      ·have h8 := HI8.out.below
       rw [hB]
       exact h8.trans (Hb.out.mono (by have := HI8.out.size; omega))
      ·obtain ⟨t, ht, hn, hs⟩ := hsim q hq
       rw [hs.1]
       exact HC.out.few_os (HI8.out.els t ht).1
     clear hlt
     go_wp2_with fail
     go_ret
     exact HPost.out
theorem table_any {lock : List Pik} {needs : List (Want × Value)} {ps : List DPack} {pk lk nv : Value} {w : World} (C : TabCtx lock needs ps pk lk nv w) (HKs : KeysSaid) (HSd : SortedSaid) :
  Calls Tryz.prog 79 #[pk, lk, nv] w (TablePost lock needs ps w) := (table_anyW C HKs HSd).mono fun _ _ h => h.1
end Go.Proofs.YtbgimpeklblcjaaGreatDoor
