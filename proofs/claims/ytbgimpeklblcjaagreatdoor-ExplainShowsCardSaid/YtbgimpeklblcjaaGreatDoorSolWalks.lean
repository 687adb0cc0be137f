/- Solve: a search in memory. Solve: ways, taken, over: walks. Solve: meets, fits: walks. Solve: fits; a name's place in the table: walks. Solve: what is needed: the walk. Solve: is all that is taken needed: the walk. Solve: the search: the walk. Solve: the search, from a package on: the walk. -/
import Derived.Test.YtbgimpeklblcjaaGreatDoorSolPlains
import Derived.Test.YtbgimpeklblcjaaGreatDoorTabLast
import Derived.Deep.OwnRows
import Derived.Test.YtbgimpeklblcjaaGreatDoorCmdMore
import Derived.Laws.EntriesVeiled
import Derived.Deep.LoopGhost
namespace Go
open Go.RowKit
/-- how great a table's choices are -/
structure TabB (T : List PP) : Prop where
 few : T.length ≤ 1000000
 os : ∀ p ∈ T, p.os.length ≤ 1000000 ∧ ∀ o ∈ p.os, o.v.p.size ≤ 300 ∧ o.ws.length ≤ 1000000 ∧ ∀ n ∈ o.ws, n.bs.length ≤ 1000 ∧ ∀ b ∈ n.bs, b.v.p.size ≤ 300
theorem table_names {lock : List Pik} {needs : List (Want × Value)} {ps ts : List DPack} (h : TableIs lock needs ps ts) : ∀ a ∈ ts.map pname, a ∈ allNames needs ps := fun a ha => by
 obtain ⟨s, hs, hg⟩ := (h.just a).1 ha
 cases hg with
 | refl => exact List.mem_append_left _ hs
 | tail _ he => exact edge_all he
theorem rise_nodup {l : List Nam} (h : l.Pairwise (· < ·)) : l.Nodup := h.imp fun h e => by subst e; exact List.lt_irrefl _ h
theorem table_off {lock : List Pik} {needs : List (Want × Value)} {ps ts : List DPack} (h : TableIs lock needs ps ts) {t : DPack} (ht : t ∈ ts) {o : DOff} (ho : o ∈ t.os) :
  ∃ o' , o' ∈ (findP ps t.name).os ∧ fitO lock t.name needs o' = true ∧ SimO o' o := by
 obtain ⟨out, hc, hs⟩ := h.each t ht
 obtain ⟨k, hk, rfl⟩ := List.getElem_of_mem ho
 have hk' : k < out.length := by have := hs.1; omega
 have hm := hc.1.mem_iff.1 (List.getElem_mem hk')
 refine ⟨out[k], ?_, sel_ok.1 _ hm, hs.2 k hk' hk⟩
 rcases selL_sub _ _ hm with hm | hm
 ·cases hm
 ·exact hm
theorem small_tab {lock : List Pik} {needs : List (Want × Value)} {ps ts : List DPack} (hS : SmallP ps lock needs) (h : TableIs lock needs ps ts) : TabB (ppL ts) := by
 refine ⟨?_, fun p hp => ?_⟩
 ·have h1 := nodup_len (rise_nodup h.up) (table_names h)
  rw [List.length_map] at h1
  rw [ppL_len]
  exact Nat.le_trans h1 hS.names.1
 ·obtain ⟨t, ht, rfl⟩ := List.mem_map.1 hp
  constructor
  ·show (t.os.map DOff.po).length ≤ _
   rw [List.length_map]
   obtain ⟨out, hc, hs⟩ := h.each t ht
   have h1 : out.length ≤ (findP ps t.name).os.length := hc.len
   have h2 : (findP ps t.name).os.length ≤ 100 := by
    rcases hfp : (ps.find? fun p => decide (p.name = t.name)) with _ | p
    ·unfold findP; rw [hfp]; simp
    ·unfold findP; rw [hfp]; exact (hS.os p (List.mem_of_find?_eq_some hfp)).1
   have := hs.1
   omega
  ·intro q hq
   obtain ⟨o, ho, rfl⟩ := List.mem_map.1 hq
   obtain ⟨o', ho', _, hsm⟩ := table_off h ht ho
   obtain ⟨p, hp, hop⟩ := findP_os ho'
   have hb := (hS.os p hp).2 o' hop
   obtain ⟨h1, h2, h3⟩ := hsm
   have e : o.po = o'.po := by unfold DOff.po; rw [h1, h3]
   rw [e]
   refine ⟨by have := hb.1; show o'.v.p.size ≤ 300; omega, ?_, fun n hn => ?_⟩
   ·show (o'.ns.map Prod.fst).length ≤ _
    rw [List.length_map]; have := hb.2.1; omega
   ·obtain ⟨x, hx, rfl⟩ := List.mem_map.1 hn
    obtain ⟨h1, _, h3⟩ := hb.2.2 x hx
    exact ⟨by omega, fun b hb => by have := h3 b hb; omega⟩
/-- what stays of a search -/
structure SK where
 w0 : World
 B : Nat
 Ba : Nat
 Bw : Nat
 Bb : Nat
 ta : Option Addr
 tc : Nat
 ts : List DPack
 needs : List (Want × Value)
 bud : Nat
def SK.T (k : SK) : List PP := ppL k.ts
def SK.ak (k : SK) : Nam → Bool := askN k.needs
def SK.ks (k : SK) : List Nat := ksOf k.ak k.T
theorem SK.T_len (k : SK) : k.T.length = k.ts.length := ppL_len _
theorem SK.ks_len (k : SK) : k.ks.length = k.ts.length := by show (List.map _ k.T).length = _; rw [List.length_map, k.T_len]
theorem ppL_at {ts : List DPack} {i : Nat} (h : i < (ppL ts).length) (h' : i < ts.length) : (ppL ts)[i] = ts[i].pp := by simp [ppL]
theorem SK.nam (k : SK) {i : Nat} (h : i < k.ts.length) : namL k.T i = k.ts[i].name.data.toList := by
 have h1 : i < (ppL k.ts).length := by rw [ppL_len]; exact h
 show namL (ppL k.ts) i = _
 rw [namL_at h1, ppL_at h1 h]; rfl
theorem SK.ks_at (k : SK) {i : Nat} (h : i < k.ts.length) : k.ks[i]? = some (k.ts[i].os.length + if k.ak (namL k.T i) = true then 0 else 1) := by
 have h1 : i < (ppL k.ts).length := by rw [ppL_len]; exact h
 show (List.map _ (ppL k.ts))[i]? = some (_ + if k.ak (namL (ppL k.ts) i) = true then 0 else 1)
 rw [List.getElem?_map, List.getElem?_eq_getElem h1, namL_at h1, ppL_at h1 h]
 show some ((List.map DOff.po k.ts[i].os).length + _) = _
 rw [List.length_map]
theorem SK.taken_at (k : SK) {ws : List Nat} {i a : Nat} (h : i < k.ts.length) (ha : ws[i]? = some a) : takenL k.T ws i = (k.ts[i].os[a]?).map DOff.po := by
 have h1 : i < (ppL k.ts).length := by rw [ppL_len]; exact h
 show takenL (ppL k.ts) ws i = _
 unfold takenL
 rw [List.getElem?_eq_getElem h1, ha, ppL_at h1 h]
 show (List.map DOff.po k.ts[i].os)[a]? = _
 rw [List.getElem?_map]
/-- an offer lies there -/
def OffIs (w : World) (b f : Nat) (o : DOff) : Prop :=
 b < w.heap.size ∧ w.cell? ⟨b, f, none⟩ = some (.int .i64 o.v.a) ∧ w.cell? ⟨b, f + 1, none⟩ = some (.int .i64 o.v.b) ∧ w.cell? ⟨b, f + 2, none⟩ = some (.int .i64 o.v.c) ∧ w.cell? ⟨b, f + 3, none⟩ = some (.string o.v.p) ∧
  w.cell? ⟨b, f + 4, none⟩ = some (.bool o.y) ∧ w.cell? ⟨b, f + 5, none⟩ = some o.nv ∧ o.ok w
/-- a pointer to what is taken of a package -/
def PtrAt (k : SK) (ws : List Nat) (i : Nat) (p : Option Addr) : Prop :=
 (takenL k.T ws i = none ∧ p = none) ∨ ∃ (o : DOff) (b f : Nat), takenL k.T ws i = some o.po ∧ p = some ⟨b, f, none⟩ ∧ OffIs k.w0 b f o
/-- no way is too great to be looked at -/
def WayOk (k : SK) (ws : List Nat) (i : Nat) : Prop := ∃ h : i < k.ts.length, ∃ a, ws[i]? = some a ∧ a ≤ k.ts[i].os.length
end Go
namespace Go.Proofs.YtbgimpeklblcjaaGreatDoor
open Go.RowKit Go.Maps
structure SK.Ok (k : SK) : Prop where
 tab : Packs k.w0 (.slice k.ta k.ts.length k.tc) k.ts
 env : Env k.w0
 W : TabW k.T
 Bd : TabB k.T
 gB : k.w0.heap.size ≤ k.B ∧ k.w0.heap.size ≤ k.Ba ∧ k.w0.heap.size ≤ k.Bw ∧ k.w0.heap.size ≤ k.Bb
 ap : k.B ≠ k.Ba ∧ k.B ≠ k.Bw ∧ k.B ≠ k.Bb ∧ k.Ba ≠ k.Bw ∧ k.Ba ≠ k.Bb ∧ k.Bw ≠ k.Bb
 bud : k.bud ≤ 1000000
structure Srch (k : SK) (W : World) (ws : List Nat) (s : Nat) : Prop where
 below : Below k.w0.heap.size k.w0 W
 blk : W.heap[k.B]? = some (.cells #[.slice k.ta k.ts.length k.tc, .slice (some ⟨k.Ba, 0, none⟩) k.ts.length k.ts.length, .slice (some ⟨k.Bw, 0, none⟩) k.ts.length k.ts.length, .slice (some ⟨k.Bb, 0, none⟩) (k.ts.length + 1) (k.ts.length + 1), .int .i64 (s : Int), .int .i64 (k.bud : Int)] 91 (0, 0))
 ask : W.rowIs k.Ba 4 k.ts.length (fun j => .bool (k.ak (namL k.T j)))
 way : W.rowIs k.Bw 3 k.ts.length (fun j => .int .i64 ((ws.getD j 0 : Nat) : Int))
 bel : W.rowIs k.Bb 3 (k.ts.length + 1) (fun j => .int .i64 ((min (prodL (k.ks.drop j)) (k.bud + 1) : Nat) : Int))
 wl : ws.length = k.ts.length
theorem Srch.on {k : SK} {W W' : World} {ws : List Nat} {s : Nat} (h : Srch k W ws s) (hb : Below W.heap.size W W') : Srch k W' ws s :=
 ⟨h.below.trans (hb.mono h.below.size), by rw [hb.block _ (lt_of_block h.blk)]; exact h.blk, h.ask.of_block (hb.block _ h.ask.lt), h.way.of_block (hb.block _ h.way.lt), h.bel.of_block (hb.block _ h.bel.lt), h.wl⟩
theorem Srch.cells {k : SK} {W : World} {ws : List Nat} {s : Nat} (h : Srch k W ws s) :
  W.cell? ⟨k.B, 0, none⟩ = some (.slice k.ta k.ts.length k.tc) ∧ W.cell? ⟨k.B, 1, none⟩ = some (.slice (some ⟨k.Ba, 0, none⟩) k.ts.length k.ts.length) ∧ W.cell? ⟨k.B, 2, none⟩ = some (.slice (some ⟨k.Bw, 0, none⟩) k.ts.length k.ts.length) ∧
  W.cell? ⟨k.B, 3, none⟩ = some (.slice (some ⟨k.Bb, 0, none⟩) (k.ts.length + 1) (k.ts.length + 1)) ∧ W.cell? ⟨k.B, 4, none⟩ = some (.int .i64 (s : Int)) ∧ W.cell? ⟨k.B, 5, none⟩ = some (.int .i64 (k.bud : Int)) ∧ W.frozen? ⟨k.B, 4, none⟩ = false ∧ k.B < W.heap.size := by
 have hb := h.blk
 refine ⟨?_, ?_, ?_, ?_, ?_, ?_, ?_, lt_of_block hb⟩ <;> simp [World.cell?, World.frozen?, hb]
theorem Srch.set {k : SK} (hk : SK.Ok k) {W : World} {ws : List Nat} {s : Nat} (h : Srch k W ws s) {i : Nat} (hi : i < k.ts.length) (a : Nat) : Srch k (W.setCell ⟨k.Bw, i, none⟩ (.int .i64 (a : Int))) (ws.set i a) s := by
 obtain ⟨_, g2, g3, _⟩ := hk.gB
 obtain ⟨a1, a2, a3, a4, a5, a6⟩ := hk.ap
 refine ⟨h.below.setCell g3 _, ?_, h.ask.setOther a4 _, ?_, h.bel.setOther (fun e => a6 e.symm) _, by rw [List.length_set]; exact h.wl⟩
 ·rw [Below.heap_setCell _ _ _ _ a2]; exact h.blk
 ·refine (h.way.set i _).congr fun j hj => ?_
  rw [List.getD_eq_getElem?_getD, List.getD_eq_getElem?_getD, List.getElem?_set]
  by_cases e : j = i
  ·subst e
   have : j < ws.length := by rw [h.wl]; exact hi
   simp [this]
  ·rw [if_neg e, if_neg (fun h => e h.symm)]
theorem Srch.step {k : SK} (hk : SK.Ok k) {W : World} {ws : List Nat} {s : Nat} (h : Srch k W ws s) (s' : Nat) : Srch k (W.setCell ⟨k.B, 4, none⟩ (.int .i64 (s' : Int))) ws s' := by
 obtain ⟨a1, a2, a3, a4, a5, a6⟩ := hk.ap
 refine ⟨h.below.setCell hk.gB.1 _, ?_, h.ask.setOther (fun e => a1 e.symm) _, h.way.setOther (fun e => a2 e.symm) _, h.bel.setOther (fun e => a3 e.symm) _, h.wl⟩
 have hb := h.blk
 simp [World.setCell, Array.getElem?_modify, hb]
theorem Srch.way_at {k : SK} {W : World} {ws : List Nat} {s : Nat} (h : Srch k W ws s) {i a : Nat} (ha : ws[i]? = some a) : W.cell? ⟨k.Bw, i, none⟩ = some (.int .i64 (a : Int)) ∧ W.frozen? ⟨k.Bw, i, none⟩ = false ∧ k.Bw < W.heap.size := by
 have hi : i < k.ts.length := by rw [← h.wl]; exact (List.getElem?_eq_some_iff.1 ha).1
 refine ⟨?_, h.way.frozen _, h.way.lt⟩
 rw [h.way.cell hi, List.getD_eq_getElem?_getD, ha]; rfl
theorem Srch.pack {k : SK} (hk : SK.Ok k) {W : World} {ws : List Nat} {s : Nat} (h : Srch k W ws s) {i : Nat} (hi : i < k.ts.length) :
  ∃ b off, k.ta = some ⟨b, off, none⟩ ∧ W.cell? ⟨b, off + i * 2, none⟩ = some (.string k.ts[i].name) ∧ W.cell? ⟨b, off + i * 2 + 1, none⟩ = some k.ts[i].ov := by
 obtain ⟨b, off, h1, _, h3, h4⟩ := hk.tab.at' h.below hi
 exact ⟨b, off, h1, h3, h4⟩
theorem PtrAt.off {k : SK} {ws : List Nat} {i : Nat} {p : Option Addr} (h : PtrAt k ws i p) {o : PO} (ho : takenL k.T ws i = some o) : ∃ (q : DOff) (b f : Nat), q.po = o ∧ p = some ⟨b, f, none⟩ ∧ OffIs k.w0 b f q := by
 rcases h with ⟨h1, _⟩ | ⟨q, b, f, h1, h2, h3⟩
 ·rw [h1] at ho; cases ho
 ·rw [h1] at ho; injection ho with ho; exact ⟨q, b, f, ho, h2, h3⟩
theorem OffIs.on {w w' : World} {b f : Nat} {o : DOff} (h : OffIs w b f o) (hb : Below w.heap.size w w') : OffIs w' b f o := by
 obtain ⟨h0, h1, h2, h3, h4, h5, h6, h7⟩ := h
 exact ⟨Nat.lt_of_lt_of_le h0 hb.size, cell_on h1 hb, cell_on h2 hb, cell_on h3 hb, cell_on h4 hb, cell_on h5 hb, cell_on h6 hb, h7.below hb (Nat.le_refl _)⟩
end Go.Proofs.YtbgimpeklblcjaaGreatDoor

namespace Go
theorem quiet_below {P : Program} {f : FuncId} {args : Array Value} {w : World} {R : Ending → Prop} (h : Calls P f args w fun e w' => R e ∧ ∃ m, w' = w.drewN m) : Calls P f args w fun e w' => R e ∧ RowKit.Below w.heap.size w w' :=
 h.mono fun _ _ ⟨he, m, hm⟩ => ⟨he, by subst hm; exact below_drewN (RowKit.Below.refl _ _) _⟩
end Go
namespace Go.Proofs.YtbgimpeklblcjaaGreatDoor
open Go.RowKit Go.Maps
set_option maxRecDepth 100000 in
set_option maxHeartbeats 2000000 in
theorem ways_as {k : SK} (hk : SK.Ok k) {W : World} {ws : List Nat} {s i : Nat} (h : Srch k W ws s) (hi : i < k.ts.length) (m : Nat) (hm : k.ks[i]? = some m) :
  Calls Tryz.prog 85 #[.pointer (some ⟨k.B, 0, none⟩), .int .i64 (i : Int)] W fun e w' => e = .returned (.int .i64 (m : Int)) ∧ w' = W := by
 obtain ⟨c0, c1, _, _, _, _, _, _⟩ := h.cells
 obtain ⟨b, off, hta, p0, p1⟩ := h.pack hk hi
 have a0 := h.ask.cell hi
 have hol : k.ts[i].os.length ≤ 1000000 := by
  have := (hk.Bd.os _ (List.mem_map.2 ⟨_, List.getElem_mem hi, rfl⟩)).1
  have e : (DPack.pp k.ts[i]).os.length = k.ts[i].os.length := List.length_map _
  omega
 have hmm := k.ks_at hi
 rw [hm] at hmm
 injection hmm with hmm
 obtain ⟨⟨pn, po, pa, pc⟩, hxe⟩ : ∃ x, k.ts[i] = x := ⟨_, rfl⟩
 rw [hxe] at p0 p1 hmm hol
 simp only [DPack.ov] at p0 p1 hmm hol
 obtain ⟨ak, hak⟩ : ∃ b, k.ak (namL k.T i) = b := ⟨_, rfl⟩
 rw [hak] at a0 hmm
 have i0 : (0 : Int) ≤ (i : Int) := by omega
 have i1 : (i : Int) < (k.ts.length : Int) := by omega
 obtain ⟨n, hn⟩ : ∃ n, k.ts.length = n := ⟨_, rfl⟩
 rw [hn] at c0 c1 i1
 rw [hta] at c0
 have HM := Lib.hid hmm
 clear hmm h hk hm hak hta hxe hi hn
 go_enter Tryz.func85, Tryz.ntmps85
 cases ak
 ·have h := HM.out
  simp only [Bool.false_eq_true, if_false] at h
  subst h
  go_wp2_with fail
  go_ret
  exact ⟨by congr 2, rfl⟩
 ·have h := HM.out
  simp only [if_true, Nat.add_zero] at h
  subst h
  go_wp2_with fail
  go_ret
  exact ⟨rfl, rfl⟩
set_option maxRecDepth 100000 in
set_option maxHeartbeats 2000000 in
theorem taken_as {k : SK} (hk : SK.Ok k) {W : World} {ws : List Nat} {s i : Nat} (h : Srch k W ws s) (hw : WayOk k ws i) :
  Calls Tryz.prog 46 #[.pointer (some ⟨k.B, 0, none⟩), .int .i64 (i : Int)] W fun e w' => (∃ p, e = .returned (.pointer p) ∧ PtrAt k ws i p) ∧ ∃ m, w' = W.drewN m := by
 obtain ⟨hi, a, ha, hal⟩ := hw
 obtain ⟨c0, c1, c2, _, _, _, _, _⟩ := h.cells
 obtain ⟨b, off, hta, p0, p1⟩ := h.pack hk hi
 obtain ⟨w1, _, _⟩ := h.way_at ha
 have ht := k.taken_at hi ha
 have HOk := Lib.hid (hk.tab.2 _ (List.getElem_mem hi)).1
 obtain ⟨⟨pn, po, pa, pc⟩, hxe⟩ : ∃ x, k.ts[i] = x := ⟨_, rfl⟩
 rw [hxe] at p0 p1 ht HOk hal
 simp only [DPack.ov] at p0 p1 ht HOk hal
 have i0 : (0 : Int) ≤ (i : Int) := by omega
 have i1 : (i : Int) < (k.ts.length : Int) := by omega
 have a0 : (0 : Int) ≤ (a : Int) := by omega
 obtain ⟨n, hn⟩ : ∃ n, k.ts.length = n := ⟨_, rfl⟩
 rw [hn] at c0 c1 c2 i1
 rw [hta] at c0
 have HT := Lib.hid ht
 clear h hk ht hta hxe hi hn c1 ha
 go_enter Tryz.func46, Tryz.ntmps46
 by_cases he : a = po.length
 ·have q0 : ((a : Int) == (po.length : Int)) = true := by rw [he]; exact beq_self_eq_true _
  have HP : Hid (takenL k.T ws i = none) := by show _ = _; rw [HT.out, List.getElem?_eq_none (by omega)]; rfl
  clear he hal
  go_wp2_with fail
  go_quiet (fail)
  go_wp2_with fail
  go_ret
  exact ⟨⟨none, rfl, .inl ⟨HP.out, rfl⟩⟩, _, rfl⟩
 ·have q0 : ((a : Int) == (po.length : Int)) = false := by rw [beq_eq_false_iff_ne]; omega
  have hlt : a < po.length := by omega
  have a1 : (a : Int) < (po.length : Int) := by omega
  obtain ⟨bx, ox, rfl, hbx, g0, g1, g2, g3, g4, g5⟩ := HOk.out.1.at' (Below.refl _ _) hlt
  have HP : Hid (PtrAt k ws i (some ⟨bx, ox + a * 6, none⟩)) :=
   .inr ⟨po[a], bx, ox + a * 6, by rw [HT.out, List.getElem?_eq_getElem hlt]; rfl, rfl, hbx, g0, g1, g2, g3, g4, g5, HOk.out.2 _ (List.getElem_mem hlt)⟩
  clear he hal g0 g1 g2 g3 g4 g5 hlt
  go_wp2_with fail
  go_quiet (fail)
  go_wp2_with fail
  go_quiet (fail)
  go_wp2_with fail
  go_ret
  exact ⟨⟨_, rfl, HP.out⟩, _, by first | rfl | rw [World.drewN_drewN]⟩
set_option maxRecDepth 100000 in
set_option maxHeartbeats 2000000 in
theorem over_as {k : SK} (hk : SK.Ok k) {W : World} {ws : List Nat} {s n : Nat} (h : Srch k W ws s) (hs : s ≤ k.bud) (s' : Nat) (hs' : s' = s + min n (k.bud + 1 - s)) :
  Calls Tryz.prog 83 #[.pointer (some ⟨k.B, 0, none⟩), .int .i64 (n : Int)] W fun e w' => e = .returned (.bool (decide (s' ≤ k.bud))) ∧ Srch k w' ws s' := by
 have hbud := hk.bud
 obtain ⟨_, _, _, _, c4, c5, f4, hz⟩ := h.cells
 have HF := Lib.hid h
 have HK := Lib.hid hk
 have e1 : min (n : Int) ((k.bud : Int) + 1 - (s : Int)) = ((min n (k.bud + 1 - s) : Nat) : Int) := by omega
 have e12 : (s : Int) + min (n : Int) ((k.bud : Int) + 1 - (s : Int)) = (s' : Int) := by rw [e1]; omega
 have e3 : decide ((s' : Int) ≤ (k.bud : Int)) = decide (s' ≤ k.bud) := by
  by_cases h : s' ≤ k.bud
  ·rw [decide_eq_true h, decide_eq_true (by omega)]
  ·rw [decide_eq_false h, decide_eq_false (by omega)]
 clear h hk e1 hs'
 go_enter Tryz.func83, Tryz.ntmps83
 go_wp2_with fail
 refine region_still_tail 19 (by kernel_rfl) (by kernel_rfl) ?_
 simp only [List.take_succ_cons, List.take_zero, List.drop_succ_cons, List.drop_zero]
 repeat still_step
 refine wpStill_nil ?_
 go_wp2_with fail
 rw [e12]
 have HF := Lib.hid (HF.out.step HK.out s')
 have c4 := HF.out.cells.2.2.2.2.1
 have c5 := HF.out.cells.2.2.2.2.2.1
 clear f4 hz e12
 generalize W.setCell ⟨k.B, 4, none⟩ (.int .i64 (s' : Int)) = W2 at *
 go_quiet (fail)
 go_wp2_with fail
 go_ret
 exact ⟨by rw [← e3]; rfl, HF.out.on (below_drewN (Below.refl _ _).drew _)⟩
end Go.Proofs.YtbgimpeklblcjaaGreatDoor

namespace Go.Proofs.YtbgimpeklblcjaaGreatDoor
open Go.RowKit Go.Maps
def MeRel (ns : List (Want × Value)) (nm : Nam) (q : Option PO) (w : World) (i : Value) (wr : World) : Prop :=
 ∃ k : Nat, k ≤ ns.length ∧ i = .int .i64 (k : Int) ∧ ((ns.take k).all fun x => !(decide (x.1.name = nm)) || metN q x.1) = true ∧ Below w.heap.size w wr
/-- what the region looks at -/
def MeS (bz : Nat) (xn : Nam) (rv : Value) (B : Nat) (tv : Value) (bt ot : Nat) (nm : ByteArray) (b2 f2 : Nat) (v : V4) (w0 W : World) : Prop :=
 (W.cell? ⟨bz, 0, none⟩ = some (.string (S xn)) ∧ W.cell? ⟨bz, 1, none⟩ = some rv) ∧ (W.cell? ⟨B, 0, none⟩ = some tv ∧ W.cell? ⟨bt, ot, none⟩ = some (.string nm)) ∧
 (W.cell? ⟨b2, f2, none⟩ = some (.int .i64 v.a) ∧ W.cell? ⟨b2, f2 + 1, none⟩ = some (.int .i64 v.b) ∧ W.cell? ⟨b2, f2 + 2, none⟩ = some (.int .i64 v.c) ∧ W.cell? ⟨b2, f2 + 3, none⟩ = some (.string v.p)) ∧ Below w0.heap.size w0 W
theorem MeS.on {bz : Nat} {xn : Nam} {rv : Value} {B : Nat} {tv : Value} {bt ot : Nat} {nm : ByteArray} {b2 f2 : Nat} {v : V4} {w0 W W' : World} (h : MeS bz xn rv B tv bt ot nm b2 f2 v w0 W) (hb : Below W.heap.size W W') : MeS bz xn rv B tv bt ot nm b2 f2 v w0 W' := by
 obtain ⟨⟨a0, a1⟩, ⟨t0, t1⟩, ⟨b0, b1, b2, b3⟩, d⟩ := h
 exact ⟨⟨cell_on a0 hb, cell_on a1 hb⟩, ⟨cell_on t0 hb, cell_on t1 hb⟩, ⟨cell_on b0 hb, cell_on b1 hb, cell_on b2 hb, cell_on b3 hb⟩, below_then d hb⟩
theorem metO_map (o : DOff) (nm : Nam) (q : Option PO) : metO o.po nm q = o.ns.all fun x => !(decide (x.1.name = nm)) || metN q x.1 := by
 unfold metO DOff.po; rw [List.all_map]; rfl
theorem metO_no {o : DOff} {nm : Nam} {q : Option PO} {k : Nat} (hk : k < o.ns.length) (h1 : o.ns[k].1.name = nm) (h2 : metN q o.ns[k].1 = false) : metO o.po nm q = false := by
 rw [metO_map, List.all_eq_false]
 exact ⟨_, List.getElem_mem hk, by simp [h1, h2]⟩
set_option maxRecDepth 100000 in
set_option maxHeartbeats 4000000 in
theorem meets_as {k : SK} (hk : SK.Ok k) {W : World} {ws : List Nat} {s i j : Nat} (h : Srch k W ws s) (hi : WayOk k ws i) (hj : WayOk k ws j) :
  Calls Tryz.prog 119 #[.pointer (some ⟨k.B, 0, none⟩), .int .i64 (i : Int), .int .i64 (j : Int)] W fun e w' => e = .returned (.bool (meetL k.T ws i j)) ∧ Below W.heap.size W w' := by
 have HS := Lib.hid h
 have HI := Lib.hid hi
 have HJ := Lib.hid hj
 have HK := Lib.hid hk
 clear h hi hj hk
 go_enter Tryz.func119, Tryz.ntmps119
 go_wp2_with fail
 refine (quiet_below (taken_as HK.out HS.out HI.out)).mono ?_
 rintro e w1 ⟨⟨p, rfl, hp⟩, hb1⟩
 have HS1 := Lib.hid (HS.out.on hb1)
 go_wp2_with fail
 refine (quiet_below (taken_as HK.out HS1.out HJ.out)).mono ?_
 rintro e w2 ⟨⟨q, rfl, hq⟩, hb2⟩
 have hb3 := below_then hb1 hb2
 have HS2 := Lib.hid (HS1.out.on hb2)
 clear HS HS1 hb1 hb2
 rcases hp with ⟨hp, rfl⟩ | ⟨o, b, f, hp, rfl, ho⟩
 ·have HM : Hid (meetL k.T ws i j = true) := by show _ = _; unfold meetL; rw [hp]
  clear hp hq
  go_wp2_with fail
  go_ret
  exact ⟨by rw [HM.out]; rfl, hb3⟩
 have HM : Hid (meetL k.T ws i j = metO o.po (namL k.T j) (takenL k.T ws j)) := by show _ = _; unfold meetL; rw [hp]
 obtain ⟨p', hp', hpo⟩ := taken_mem hp
 have HBo := Lib.hid ((HK.out.Bd.os _ hp').2 _ hpo)
 obtain ⟨hjl, _⟩ := HJ.out
 have hnj := k.nam hjl
 obtain ⟨c0, _, _, _, _, _, _, _⟩ := HS2.out.cells
 obtain ⟨bt, ot, hta, t0, _⟩ := HS2.out.pack HK.out hjl
 obtain ⟨nm, hnm⟩ : ∃ x, k.ts[j].name = x := ⟨_, rfl⟩
 rw [hnm] at hnj t0
 rw [hnj] at HM
 obtain ⟨n, hn⟩ : ∃ n, k.ts.length = n := ⟨_, rfl⟩
 rw [hn, hta] at c0
 have j0 : (0 : Int) ≤ (j : Int) := by omega
 have j1 : (j : Int) < (n : Int) := by omega
 have hw2 := HS2.out.below
 have HS2' := Lib.hid hw2
 have hOw := OffIs.on ho hw2
 obtain ⟨_, _, _, _, _, _, o5, hok⟩ := hOw
 have hokl := hok.1.len.1
 have honl : o.ns.length ≤ 9223372036854775807 := Nat.le_trans hokl (by decide)
 obtain ⟨oa, oc, hov⟩ := hok.2
 rw [hov] at o5
 have HOk : Hid (Wants w2 (.slice oa o.ns.length oc) o.ns) := by rw [← hov]; exact hok.1
 have HEn := Lib.hid (HK.out.env.below (w' := w2) hw2)
 have HQ := Lib.hid hq
 have HC := Lib.hid (⟨c0, t0⟩ : _ ∧ _)
 have HO := Lib.hid ho
 clear hp hq hp' hpo hnj hnm hn hta hw2 hok hokl hov ho HS2 c0 t0
 go_wp2_with fail
 go_loopw [24] (fun i wr => MeRel o.ns nm.data.toList (takenL k.T ws j) w2 i wr) (fun i _ => o.ns.length - (intOf i).toNat)
 case atStart => exact ⟨0, Nat.zero_le _, rfl, rfl, Below.refl _ _⟩
 case round =>
  obtain ⟨m, hm, rfl, hall, hb⟩ := hrel
  have HA := Lib.hid hall
  have hb5 := below_then hb3 hb
  clear hall
  by_cases hlt : m < o.ns.length
  ·have i0 : (0 : Int) ≤ (m : Int) := by omega
   have i1 : (m : Int) < (o.ns.length : Int) := by omega
   obtain ⟨bx, ox, rfl, hbx, d0, d1⟩ := HOk.out.at' hb hlt
   have hrv := HOk.out.2 _ (List.getElem_mem hlt)
   have HT := Lib.hid (List.take_succ_eq_append_getElem hlt)
   have hbd := HBo.out.2.2 _ (List.mem_map.2 ⟨_, List.getElem_mem hlt, rfl⟩)
   have hno : metN (takenL k.T ws j) o.ns[m].1 = false → o.ns[m].1.name = nm.data.toList → metO o.po nm.data.toList (takenL k.T ws j) = false := fun h2 h1 => metO_no hlt h1 h2
   obtain ⟨⟨xn, xv⟩, hxe⟩ : ∃ x, o.ns[m] = x := ⟨_, rfl⟩
   rw [hxe] at d0 d1 hrv HT hbd hno
   obtain ⟨hbn, ra, rcap, hrv⟩ := hrv
   simp only at d0 d1 hrv hbd hno hbn
   subst hrv
   have hal := (Below.refl wr.heap.size wr).alloc (Nat.le_refl _) (.cells #[.string (S xn.name), .slice ra xn.bs.length rcap] 60)
   have hb6 := hb.trans (hal.mono hb.size)
   obtain ⟨c0, t0⟩ := HC.out
   have c1 := cell_on (cell_on c0 hb) hal
   have t1 := cell_on (cell_on t0 hb) hal
   have hz1 := cell_lt (cell_on c0 hb)
   have hz2 := cell_lt (cell_on t0 hb)
   have HNo := Lib.hid hno
   obtain ⟨eq, heq⟩ : ∃ eq, ((S xn.name).toList == nm.toList) = eq := ⟨_, rfl⟩
   have HNe : Hid (eq = decide (xn.name = nm.data.toList)) := by
    show _ = _
    rw [← heq, S_toList, Lib.toList_data]
    by_cases h : xn.name = nm.data.toList
    ·rw [h]; simp
    ·rw [decide_eq_false h]; simpa using h
   have HB6 := Lib.hid hb6
   have d0 := box_cells (Below.refl (wr.heap.size + 1) (wr.alloc (.cells #[.string (S xn.name), .slice ra xn.bs.length rcap] 60))) 0
   have d1 := box_cells (Below.refl (wr.heap.size + 1) (wr.alloc (.cells #[.string (S xn.name), .slice ra xn.bs.length rcap] 60))) 1
   simp only [List.getElem?_toArray, List.getElem?_cons_zero, List.getElem?_cons_succ] at d0 d1
   have HAl := Lib.hid (hal.mono (Nat.le_refl _))
   clear hxe hno c0 t0 hal hb6
   cases eq
   ·have HNx : Hid (((o.ns.take (m + 1)).all fun x => !(decide (x.1.name = nm.data.toList)) || metN (takenL k.T ws j) x.1) = true) := by
     show _ = _
     rw [HT.out, List.all_append, HA.out]
     simp [← HNe.out]
    go_wp2_with fail
    go_quiet (fail)
    go_wp2_with fail
    go_roundw
    case rel => exact ⟨m + 1, hlt, by go_num, HNx.out, below_drewN HB6.out _⟩
    case measure => simp [intOf]; omega
   ·have hnm' : Hid (xn.name = nm.data.toList) := by show _ = _; exact of_decide_eq_true HNe.out.symm
    rcases HQ.out with ⟨hqn, rfl⟩ | ⟨o2, b2, f2, hq2, rfl, hO2⟩
    ·have HF : Hid (metO o.po nm.data.toList (takenL k.T ws j) = false) := HNo.out (by rw [hqn]; rfl) hnm'.out
     clear hqn
     go_wp2_with fail
     go_quiet (fail)
     go_wp2_with fail
     go_ret
     exact ⟨by rw [HM.out, HF.out]; rfl, below_drewN (below_then hb3 HB6.out) _⟩
    ·have hO := OffIs.on hO2 (HS2'.out.trans (HB6.out.mono HS2'.out.size))
     obtain ⟨o0, o1, o2', o3, o4, _, _, hok2⟩ := hO
     obtain ⟨r, hr⟩ : ∃ r, meetsR o2.v xn.bs = r := ⟨_, rfl⟩
     have hmr : metN (takenL k.T ws j) xn = r := by rw [hq2]; exact hr
     have hp2 : o2.v.p.size ≤ 300 := by
      obtain ⟨p2, hp2, hpo2⟩ := taken_mem hq2
      exact ((HK.out.Bd.os _ hp2).2 _ hpo2).1
     have HRr : Hid (metN (takenL k.T ws j) xn = r) := hmr
     have hd := (Below.refl (wr.alloc (.cells #[.string (S xn.name), .slice ra xn.bs.length rcap] 60)).heap.size (wr.alloc (.cells #[.string (S xn.name), .slice ra xn.bs.length rcap] 60))).drew
     have hst : MeS wr.heap.size xn.name (.slice ra xn.bs.length rcap) k.B (.slice (some ⟨bt, ot, none⟩) n k.tc) bt (ot + j * 2) nm b2 f2 o2.v (wr.alloc (.cells #[.string (S xn.name), .slice ra xn.bs.length rcap] 60)).drew (wr.alloc (.cells #[.string (S xn.name), .slice ra xn.bs.length rcap] 60)).drew :=
      ⟨⟨cell_on d0 hd, cell_on d1 hd⟩, ⟨cell_on c1 hd, cell_on t1 hd⟩, ⟨cell_on o1 hd, cell_on o2' hd, cell_on o3 hd, cell_on o4 hd⟩, Below.refl _ _⟩
     have HMt : Hid (∀ W, Below (wr.alloc (.cells #[.string (S xn.name), .slice ra xn.bs.length rcap] 60)).drew.heap.size (wr.alloc (.cells #[.string (S xn.name), .slice ra xn.bs.length rcap] 60)).drew W → Calls Tryz.prog 137 #[.agg #[.int .i64 o2.v.a, .int .i64 o2.v.b, .int .i64 o2.v.c, .string o2.v.p], .slice ra xn.bs.length rcap] W fun e w' => e = .returned (.bool r) ∧ Below W.heap.size W w') := fun W hW => by
      have hW2 := below_then HB6.out (hd.trans (hW.mono hd.size))
      exact meetsO_as o2.v _ xn.bs r hr W (hbn.below hW2 (Nat.le_refl _)) ⟨_, _, rfl⟩ (HEn.out.below hW2) hp2 (fun b hb => hbd.2 b hb) hbd.1
     clear hr hmr hok2 o0 o1 o2' o3 o4 d0 d1 c1 t1
     go_wp2_with fail
     generalize wr.alloc (.cells #[.string (S xn.name), .slice ra xn.bs.length rcap] 60) = wz at *
     refine wp_region_held_drew (S := (fun W => MeS wr.heap.size xn.name (.slice ra xn.bs.length rcap) k.B (.slice (some ⟨bt, ot, none⟩) n k.tc) bt (ot + j * 2) nm b2 f2 o2.v wz.drew W)) (by kernel_rfl) (hst) (fun hHeld => ?_)
     refine wpAnyH_take (i := 0) (v := ?_) rfl (by kernel_rfl) (by kernel_rfl) (by kernel_rfl) (fun _ _ _ h => h) (Or.inl ⟨by kernel_rfl, ?_⟩) hHeld ?_
     rotate_left
     ·(rintro W ⟨⟨e0, e1⟩, ⟨e2, e3⟩, ⟨e4, e5, e6, e7⟩, _⟩; go_simp; (try with_reducible rfl))
     (try simp only [Act.put, putL])
     refine wpAnyH_take (i := 1) (v := ?_) rfl (by kernel_rfl) (by kernel_rfl) (by kernel_rfl) (fun _ _ _ h => h) (Or.inl ⟨by kernel_rfl, ?_⟩) hHeld ?_
     rotate_left
     ·(rintro W ⟨⟨e0, e1⟩, ⟨e2, e3⟩, ⟨e4, e5, e6, e7⟩, _⟩; go_simp; (try with_reducible rfl))
     (try simp only [Act.put, putL])
     refine wpAnyH_take (i := 2) (v := ?_) rfl (by kernel_rfl) (by kernel_rfl) (by kernel_rfl) (fun _ _ _ h => h) (Or.inl ⟨by kernel_rfl, ?_⟩) hHeld ?_
     rotate_left
     ·(rintro W ⟨⟨e0, e1⟩, ⟨e2, e3⟩, ⟨e4, e5, e6, e7⟩, _⟩; go_simp; (try with_reducible rfl))
     (try simp only [Act.put, putL])
     refine wpAnyH_take (i := 3) (v := ?_) rfl (by kernel_rfl) (by kernel_rfl) (by kernel_rfl) (fun _ _ _ h => h) (Or.inl ⟨by kernel_rfl, ?_⟩) hHeld ?_
     rotate_left
     ·(rintro W ⟨⟨e0, e1⟩, ⟨e2, e3⟩, ⟨e4, e5, e6, e7⟩, _⟩; go_simp; (try with_reducible rfl))
     (try simp only [Act.put, putL])
     refine wpAnyH_take (i := 4) (v := ?_) rfl (by kernel_rfl) (by kernel_rfl) (by kernel_rfl) (fun _ _ _ h => h) (Or.inl ⟨by kernel_rfl, ?_⟩) hHeld ?_
     rotate_left
     ·(rintro W ⟨⟨e0, e1⟩, ⟨e2, e3⟩, ⟨e4, e5, e6, e7⟩, _⟩; go_simp; (try with_reducible rfl))
     (try simp only [Act.put, putL])
     refine wpAnyH_take (i := 5) (v := ?_) rfl (by kernel_rfl) (by kernel_rfl) (by kernel_rfl) (fun _ _ _ h => h) (Or.inl ⟨by kernel_rfl, ?_⟩) hHeld ?_
     rotate_left
     ·(rintro W ⟨⟨e0, e1⟩, ⟨e2, e3⟩, ⟨e4, e5, e6, e7⟩, _⟩; go_simp; (try with_reducible rfl))
     (try simp only [Act.put, putL])
     refine wpAnyH_take (i := 6) (v := ?_) rfl (by kernel_rfl) (by kernel_rfl) (by kernel_rfl) (fun _ _ _ h => h) (Or.inl ⟨by kernel_rfl, ?_⟩) hHeld ?_
     rotate_left
     ·(rintro W ⟨⟨e0, e1⟩, ⟨e2, e3⟩, ⟨e4, e5, e6, e7⟩, _⟩; go_simp; (try with_reducible rfl))
     (try simp only [Act.put, putL])
     refine wpAnyH_take (i := 7) (v := ?_) rfl (by kernel_rfl) (by kernel_rfl) (by kernel_rfl) (fun _ _ _ h => h) (Or.inl ⟨by kernel_rfl, ?_⟩) hHeld ?_
     rotate_left
     ·(rintro W ⟨⟨e0, e1⟩, ⟨e2, e3⟩, ⟨e4, e5, e6, e7⟩, _⟩; go_simp; (try with_reducible rfl))
     (try simp only [Act.put, putL])
     refine wpAnyH_take (i := 8) (v := ?_) rfl (by kernel_rfl) (by kernel_rfl) (by kernel_rfl) (fun _ _ _ h => h) (Or.inl ⟨by kernel_rfl, ?_⟩) hHeld ?_
     rotate_left
     ·(rintro W ⟨⟨e0, e1⟩, ⟨e2, e3⟩, ⟨e4, e5, e6, e7⟩, _⟩; go_simp; (try with_reducible rfl))
     (try simp only [Act.put, putL])
     refine wpAnyH_take (i := 9) (v := ?_) rfl (by kernel_rfl) (by kernel_rfl) (by kernel_rfl) (fun _ _ _ h => h) (Or.inl ⟨by kernel_rfl, ?_⟩) hHeld ?_
     rotate_left
     ·(rintro W ⟨⟨e0, e1⟩, ⟨e2, e3⟩, ⟨e4, e5, e6, e7⟩, _⟩; go_simp; (try with_reducible rfl))
     (try simp only [Act.put, putL])
     refine wpAnyH_take (i := 10) (v := ?_) rfl (by kernel_rfl) (by kernel_rfl) (by kernel_rfl) (fun _ _ _ h => h) (Or.inl ⟨by kernel_rfl, ?_⟩) hHeld ?_
     rotate_left
     ·(rintro W ⟨⟨e0, e1⟩, ⟨e2, e3⟩, ⟨e4, e5, e6, e7⟩, _⟩; go_simp; (try with_reducible rfl))
     (try simp only [Act.put, putL])
     refine wpAnyH_take (i := 11) (v := ?_) rfl (by kernel_rfl) (by kernel_rfl) (by kernel_rfl) (fun _ _ _ h => h) (Or.inl ⟨by kernel_rfl, ?_⟩) hHeld ?_
     rotate_left
     ·(rintro W ⟨⟨e0, e1⟩, ⟨e2, e3⟩, ⟨e4, e5, e6, e7⟩, _⟩; go_simp; (try with_reducible rfl))
     (try simp only [Act.put, putL])
     refine wpAnyH_take (i := 12) (v := ?_) rfl (by kernel_rfl) (by kernel_rfl) (by kernel_rfl) (fun _ _ _ h => h) (Or.inl ⟨by kernel_rfl, ?_⟩) hHeld ?_
     rotate_left
     ·(rintro W ⟨⟨e0, e1⟩, ⟨e2, e3⟩, ⟨e4, e5, e6, e7⟩, _⟩; go_simp; (try with_reducible rfl))
     (try simp only [Act.put, putL])
     refine wpAnyH_take (i := 13) (v := ?_) rfl (by kernel_rfl) (by kernel_rfl) (by kernel_rfl) (fun _ _ _ h => h) (Or.inl ⟨by kernel_rfl, ?_⟩) hHeld ?_
     rotate_left
     ·(rintro W ⟨⟨e0, e1⟩, ⟨e2, e3⟩, ⟨e4, e5, e6, e7⟩, _⟩; go_simp; (try with_reducible rfl))
     (try simp only [Act.put, putL])
     refine wpAnyH_take (i := 14) (v := ?_) rfl (by kernel_rfl) (by kernel_rfl) (by kernel_rfl) (fun _ _ _ h => h) (Or.inl ⟨by kernel_rfl, ?_⟩) hHeld ?_
     rotate_left
     ·(rintro W ⟨⟨e0, e1⟩, ⟨e2, e3⟩, ⟨e4, e5, e6, e7⟩, _⟩; go_simp; (try with_reducible rfl))
     (try simp only [Act.put, putL])
     refine wpAnyH_take (i := 15) (v := ?_) rfl (by kernel_rfl) (by kernel_rfl) (by kernel_rfl) (fun _ _ _ h => h) (Or.inl ⟨by kernel_rfl, ?_⟩) hHeld ?_
     rotate_left
     ·(rintro W ⟨⟨e0, e1⟩, ⟨e2, e3⟩, ⟨e4, e5, e6, e7⟩, _⟩; go_simp; (try with_reducible rfl))
     (try simp only [Act.put, putL])
     refine wpAnyH_take (i := 16) (v := ?_) rfl (by kernel_rfl) (by kernel_rfl) (by kernel_rfl) (fun _ _ _ h => h) (Or.inl ⟨by kernel_rfl, ?_⟩) hHeld ?_
     rotate_left
     ·(rintro W ⟨⟨e0, e1⟩, ⟨e2, e3⟩, ⟨e4, e5, e6, e7⟩, _⟩; go_simp; (try with_reducible rfl))
     (try simp only [Act.put, putL])
     refine wpAnyH_take (i := 17) (v := ?_) rfl (by kernel_rfl) (by kernel_rfl) (by kernel_rfl) (fun _ _ _ h => h) (Or.inl ⟨by kernel_rfl, ?_⟩) hHeld ?_
     rotate_left
     ·(rintro W ⟨⟨e0, e1⟩, ⟨e2, e3⟩, ⟨e4, e5, e6, e7⟩, _⟩; go_simp; (try with_reducible rfl))
     (try simp only [Act.put, putL])
     refine wpAnyH_take (i := 18) (v := ?_) rfl (by kernel_rfl) (by kernel_rfl) (by kernel_rfl) (fun _ _ _ h => h) (Or.inl ⟨by kernel_rfl, ?_⟩) hHeld ?_
     rotate_left
     ·(rintro W ⟨⟨e0, e1⟩, ⟨e2, e3⟩, ⟨e4, e5, e6, e7⟩, _⟩; go_simp; (try with_reducible rfl))
     (try simp only [Act.put, putL])
     refine wpAnyH_take (i := 19) (v := ?_) rfl (by kernel_rfl) (by kernel_rfl) (by kernel_rfl) (fun _ _ _ h => h) (Or.inl ⟨by kernel_rfl, ?_⟩) hHeld ?_
     rotate_left
     ·(rintro W ⟨⟨e0, e1⟩, ⟨e2, e3⟩, ⟨e4, e5, e6, e7⟩, _⟩; go_simp; (try with_reducible rfl))
     (try simp only [Act.put, putL])
     refine wpAnyH_take (i := 20) (v := ?_) rfl (by kernel_rfl) (by kernel_rfl) (by kernel_rfl) (fun _ _ _ h => h) (Or.inl ⟨by kernel_rfl, ?_⟩) hHeld ?_
     rotate_left
     ·(rintro W ⟨⟨e0, e1⟩, ⟨e2, e3⟩, ⟨e4, e5, e6, e7⟩, _⟩; go_simp; (try with_reducible rfl))
     (try simp only [Act.put, putL])
     refine wpAnyH_ready (rs := [21]) (by kernel_rfl) (by simp) ?_
     refine AllReadyH.cons rfl (fun K hK => ?_) AllReadyH.nil
     go_simp
     refine (HMt.out _ hHeld.2.2.2).mono ?_
     rintro e w12 ⟨rfl, hk12⟩
     refine hK.out _ _ (hHeld.on hk12) (fun hHeld => ?_)
     clear hK K
     (try simp only [Act.put, putL])
     refine wpAnyH_take (i := 22) (v := ?_) rfl (by kernel_rfl) (by kernel_rfl) (by kernel_rfl) (fun _ _ _ h => h) (Or.inl ⟨by kernel_rfl, ?_⟩) hHeld ?_
     rotate_left
     ·(rintro W ⟨⟨e0, e1⟩, ⟨e2, e3⟩, ⟨e4, e5, e6, e7⟩, _⟩; go_simp; (try with_reducible rfl))
     (try simp only [Act.put, putL])
     refine wpAnyH_take (i := 23) (v := ?_) rfl (by kernel_rfl) (by kernel_rfl) (by kernel_rfl) (fun _ _ _ h => h) (Or.inl ⟨by kernel_rfl, ?_⟩) hHeld ?_
     rotate_left
     ·(rintro W ⟨⟨e0, e1⟩, ⟨e2, e3⟩, ⟨e4, e5, e6, e7⟩, _⟩; go_simp; (try with_reducible rfl))
     (try simp only [Act.put, putL])
     refine wpAnyH_take (i := 24) (v := ?_) rfl (by kernel_rfl) (by kernel_rfl) (by kernel_rfl) (fun _ _ _ h => h) (Or.inl ⟨by kernel_rfl, ?_⟩) hHeld ?_
     rotate_left
     ·(rintro W ⟨⟨e0, e1⟩, ⟨e2, e3⟩, ⟨e4, e5, e6, e7⟩, _⟩; go_simp; (try with_reducible rfl))
     (try simp only [Act.put, putL])
     refine wpAnyH_done (by kernel_rfl) ?_ _
     have hbE := hd.trans (hHeld.2.2.2.mono hd.size)
     clear hst hHeld
     cases r
     ·have HF : Hid (metO o.po nm.data.toList (takenL k.T ws j) = false) := HNo.out HRr.out hnm'.out
      go_wp2_with fail
      go_ret
      exact ⟨by rw [HM.out, HF.out]; rfl, below_then hb3 (below_then HB6.out hbE)⟩
     ·have HNx : Hid (((o.ns.take (m + 1)).all fun x => !(decide (x.1.name = nm.data.toList)) || metN (takenL k.T ws j) x.1) = true) := by
       show _ = _
       rw [HT.out, List.all_append, HA.out]
       simp [HRr.out]
      go_wp2_with fail
      go_roundw
      case rel => exact ⟨m + 1, hlt, by go_num, HNx.out, below_then HB6.out hbE⟩
      case measure => simp [intOf]; omega
  ·have q6 : decide (m < o.ns.length) = false := decide_eq_false hlt
   have HF : Hid (metO o.po nm.data.toList (takenL k.T ws j) = true) := by
    show _ = _
    rw [metO_map]
    have := HA.out
    rw [List.take_of_length_le (by omega)] at this
    exact this
   clear hlt
   go_wp2_with fail
   go_ret
   exact ⟨by rw [HM.out, HF.out]; rfl, hb5⟩
end Go.Proofs.YtbgimpeklblcjaaGreatDoor

namespace Go.Proofs.YtbgimpeklblcjaaGreatDoor
open Go.RowKit Go.Maps
def FiRel (k : SK) (ws : List Nat) (i : Nat) (w : World) (x : Value) (wr : World) : Prop :=
 ∃ j : Nat, j ≤ i + 1 ∧ x = .int .i64 (j : Int) ∧ (∀ m, m < j → meetL k.T ws i m = true ∧ meetL k.T ws m i = true) ∧ Below w.heap.size w wr
set_option maxRecDepth 100000 in
set_option maxHeartbeats 4000000 in
theorem fits_as {k : SK} (hk : SK.Ok k) {W : World} {ws : List Nat} {s i : Nat} (h : Srch k W ws s) (hi : ∀ j, j ≤ i → WayOk k ws j) :
  Calls Tryz.prog 86 #[.pointer (some ⟨k.B, 0, none⟩), .int .i64 (i : Int)] W fun e w' => e = .returned (.bool (fitL k.T ws i)) ∧ Below W.heap.size W w' := by
 have hil : i < k.ts.length := (hi i (Nat.le_refl _)).1
 have hn := hk.tab.len.1
 have hi9 : i + 1 ≤ 9223372036854775807 := by
  have h9 : maxLen ≤ 9223372036854775807 := by decide
  omega
 have HS := Lib.hid h
 have HI := Lib.hid hi
 have HK := Lib.hid hk
 clear h hi hk hil hn
 go_enter Tryz.func86, Tryz.ntmps86
 go_wp2_with fail
 go_loopw [8] (fun x wr => FiRel k ws i W x wr) (fun x _ => i + 1 - (intOf x).toNat)
 case atStart => exact ⟨0, Nat.zero_le _, rfl, fun m h => absurd h (Nat.not_lt_zero _), Below.refl _ _⟩
 case round =>
  obtain ⟨j, hj, rfl, hall, hb⟩ := hrel
  have HA := Lib.hid hall
  have HS1 := Lib.hid (HS.out.on hb)
  clear hall
  by_cases hlt : j < i + 1
  ·have j0 : (0 : Int) ≤ (j : Int) := by omega
   have j1 : (j : Int) < (i : Int) + 1 := by omega
   have HI1 := Lib.hid (HI.out i (Nat.le_refl _))
   have HJ1 := Lib.hid (HI.out j (by omega))
   obtain ⟨r1, hr1⟩ : ∃ b, meetL k.T ws i j = b := ⟨_, rfl⟩
   obtain ⟨r2, hr2⟩ : ∃ b, meetL k.T ws j i = b := ⟨_, rfl⟩
   have HM1 := Lib.hid (meets_as HK.out HS1.out HI1.out HJ1.out)
   rw [hr1] at HM1
   have HR := Lib.hid (⟨hr1, hr2⟩ : _ ∧ _)
   clear hr1 hr2
   go_wp2_with fail
   refine HM1.out.mono ?_
   rintro e w2 ⟨rfl, hb2⟩
   have hb3 := below_then hb hb2
   cases r1
   ·have HF : Hid (fitL k.T ws i = false) := by
     show _ = _
     cases h : fitL k.T ws i with
     | false => rfl
     | true => have := (fitL_iff.1 h j (by omega)).1; rw [HR.out.1] at this; cases this
    go_wp2_with fail
    go_ret
    exact ⟨by rw [HF.out]; rfl, hb3⟩
   ·have HM2 := Lib.hid (meets_as HK.out (HS1.out.on hb2) HJ1.out HI1.out)
    rw [HR.out.2] at HM2
    go_wp2_with fail
    refine HM2.out.mono ?_
    rintro e w3 ⟨rfl, hb4⟩
    have hb5 := below_then hb3 hb4
    cases r2
    ·have HF : Hid (fitL k.T ws i = false) := by
      show _ = _
      cases h : fitL k.T ws i with
      | false => rfl
      | true => have := (fitL_iff.1 h j (by omega)).2; rw [HR.out.2] at this; cases this
     go_wp2_with fail
     go_ret
     exact ⟨by rw [HF.out]; rfl, hb5⟩
    ·have HNx : Hid (∀ m, m < j + 1 → meetL k.T ws i m = true ∧ meetL k.T ws m i = true) := by
      show ∀ _, _
      intro m hm
      rcases Nat.lt_succ_iff_lt_or_eq.1 hm with h | rfl
      ·exact HA.out m h
      ·exact HR.out
     go_wp2_with fail
     go_roundw
     case rel => exact ⟨j + 1, hlt, by go_num, HNx.out, hb5⟩
     case measure => simp [intOf]; omega
  ·have j1 : ¬ (j : Int) < (i : Int) + 1 := by omega
   have HF : Hid (fitL k.T ws i = true) := fitL_iff.2 fun m hm => HA.out m (by omega)
   clear hlt
   go_wp2_with fail
   go_ret
   exact ⟨by rw [HF.out]; rfl, hb⟩
/-- the comparison -/
def cmpNm (a b : Nam) : Int := if a < b then -1 else if b < a then 1 else 0
set_option maxRecDepth 100000 in
set_option maxHeartbeats 1000000 in
theorem cmpNm_as (x : DPack) (nm : Nam) (r : Int) (hr : cmpNm (pname x) nm = r) (w : World) :
  Calls Tryz.prog 118 #[.agg #[.string x.name, x.ov], .string (S nm)] w fun e w' => e = .returned (.int .i64 r) ∧ Below w.heap.size w w' := by
 have hW := (Below.refl w.heap.size w).alloc (Nat.le_refl _) (.cells #[.string x.name, x.ov] 52)
 have b1 : Op.bytesLess x.name.toList (S nm).toList = decide (pname x < nm) := by rw [bLess, S_toList, Lib.toList_data]; rfl
 have b2 : Op.bytesLess (S nm).toList x.name.toList = decide (nm < pname x) := by rw [bLess, S_toList, Lib.toList_data]; rfl
 by_cases h1 : pname x < nm
 ·have hr2 : r = -1 := by rw [← hr]; unfold cmpNm; rw [if_pos h1]
  rw [decide_eq_true h1] at b1
  subst hr2
  clear hr b2 h1
  go_enter Tryz.func118, Tryz.ntmps118
  go_wp2_with fail
  go_ret
  exact ⟨rfl, hW⟩
 ·rw [decide_eq_false h1] at b1
  by_cases h2 : nm < pname x
  ·have hr2 : r = 1 := by rw [← hr]; unfold cmpNm; rw [if_neg h1, if_pos h2]
   have b3 : (x.name.toList == (S nm).toList) = false := by
    rw [beq_eq_false_iff_ne, S_toList, Lib.toList_data]
    intro e; exact h1 (absurd h2 (by show ¬ nm < x.name.data.toList; rw [e]; exact List.lt_irrefl _))
   rw [decide_eq_true h2] at b2
   subst hr2
   clear hr h1 h2
   go_enter Tryz.func118, Tryz.ntmps118
   go_wp2_with fail
   go_ret
   exact ⟨rfl, hW⟩
  ·have hr2 : r = 0 := by rw [← hr]; unfold cmpNm; rw [if_neg h1, if_neg h2]
   have b3 : (x.name.toList == (S nm).toList) = true := by
    rw [beq_iff_eq, S_toList, Lib.toList_data]
    exact List.le_antisymm (List.not_lt.1 h2) (List.not_lt.1 h1)
   rw [decide_eq_false h2] at b2
   subst hr2
   clear hr h1 h2
   go_enter Tryz.func118, Tryz.ntmps118
   go_wp2_with fail
   go_ret
   exact ⟨rfl, hW⟩
def BsRel (n j : Nat) (w : World) (x y : Value) (wr : World) : Prop :=
 ∃ lo hi : Nat, lo ≤ j ∧ j ≤ hi ∧ hi ≤ n ∧ x = .int .i64 (lo : Int) ∧ y = .int .i64 (hi : Int) ∧ Below w.heap.size w wr
set_option maxRecDepth 100000 in
set_option maxHeartbeats 4000000 in
theorem bsearch_as (ta : Option Addr) (tc : Nat) (ts : List DPack) (j : Nat) (hj : j < ts.length) (nm : Nam) (hnm : pname ts[j] = nm) (w : World) (ht : Packs w (.slice ta ts.length tc) ts) (hup : (ts.map pname).Pairwise (· < ·)) (hx : ts.length ≤ 1000000) :
  Calls Tryz.prog 117 #[.slice ta ts.length tc, .string (S nm), .func (.func 118) #[] #[]] w fun e w' => e = .returned (.tuple #[.int .i64 (j : Int), .bool true]) ∧ Below w.heap.size w w' := by
 have HT := Lib.hid ht
 have HU := Lib.hid hup
 have HN := Lib.hid hnm
 clear ht hup hnm
 go_enter Tryz.func117, Tryz.ntmps117
 go_wp2_with fail
 go_loopw [9, 10] (fun x y wr => BsRel ts.length j w x y wr) (fun x y _ => ((intOf y) - (intOf x)).toNat)
 case atStart => exact ⟨0, ts.length, Nat.zero_le _, Nat.le_of_lt hj, Nat.le_refl _, rfl, rfl, Below.refl _ _⟩
 case round =>
  obtain ⟨lo, hi, hlo, hhi, hin, rfl, rfl, hb⟩ := hrel
  by_cases hlt : lo < hi
  ·have q0 : (lo : Int) < (hi : Int) := by omega
   obtain ⟨m, hm⟩ : ∃ m, (lo + hi) / 2 = m := ⟨_, rfl⟩
   have hm1 : lo ≤ m := by omega
   have hm2 : m < hi := by omega
   have hml : m < ts.length := by omega
   have m0 : (0 : Int) ≤ (m : Int) := by omega
   have m1 : (m : Int) < (ts.length : Int) := by omega
   obtain ⟨bx, ox, rfl, hbx, c0, c1⟩ := HT.out.at' hb hml
   obtain ⟨r, hr⟩ : ∃ r, cmpNm (pname ts[m]) nm = r := ⟨_, rfl⟩
   have HC := Lib.hid (cmpNm_as ts[m] nm r hr wr)
   have hsgn : r < 0 ↔ m < j := by
    rw [← hr, ← HN.out]
    unfold cmpNm
    have key : ∀ a b (ha : a < ts.length) (hb : b < ts.length), a < b → pname ts[a] < pname ts[b] := fun a b ha hb hab => by
     have := List.pairwise_iff_getElem.1 HU.out a b (by simpa using ha) (by simpa using hb) hab
     simpa using this
    rcases Nat.lt_trichotomy m j with h | h | h
    ·rw [if_pos (key m j hml hj h)]; omega
    ·subst h
     rw [if_neg (List.lt_irrefl _), if_neg (List.lt_irrefl _)]; omega
    ·have h1 := key j m hj hml h
     rw [if_neg (fun h2 => List.lt_irrefl _ (List.lt_trans h1 h2)), if_pos h1]; omega
   have e2 : ((lo : Int) + (hi : Int)) / 2 = (m : Int) := by omega
   have E2 := Lib.hid e2
   clear hr e2
   go_wp2_with fail
   refine HC.out.mono ?_
   rintro e w1 ⟨rfl, hb1⟩
   have hb2 := below_then hb hb1
   by_cases hmj : m < j
   ·have q1 : decide (r < 0) = true := decide_eq_true (hsgn.2 hmj)
    clear hsgn
    go_wp2_with fail
    go_roundw
    case rel => exact ⟨m + 1, hi, hmj, hhi, hin, by rw [E2.out]; go_num, rfl, hb2⟩
    case measure => have := E2.out; simp [intOf]; omega
   ·have q1 : decide (r < 0) = false := decide_eq_false (fun h => hmj (hsgn.1 h))
    clear hsgn
    go_wp2_with fail
    go_roundw
    case rel => exact ⟨lo, m, hlo, by omega, by omega, rfl, by rw [E2.out], hb2⟩
    case measure => have := E2.out; simp [intOf]; omega
  ·have q0 : ¬ (lo : Int) < (hi : Int) := by omega
   obtain rfl : lo = j := by omega
   have i0 : (0 : Int) ≤ (lo : Int) := by omega
   have i1 : (lo : Int) < (ts.length : Int) := by omega
   obtain ⟨bx, ox, rfl, hbx, c0, c1⟩ := HT.out.at' hb hj
   obtain ⟨x, hxe⟩ : ∃ x, ts[lo] = x := ⟨_, rfl⟩
   rw [hxe] at c0 c1 HN
   have HC := Lib.hid (cmpNm_as x nm 0 (by rw [HN.out]; unfold cmpNm; rw [if_neg (List.lt_irrefl _), if_neg (List.lt_irrefl _)]) wr)
   clear hxe
   go_wp2_with fail
   refine HC.out.mono ?_
   rintro e w1 ⟨rfl, hb1⟩
   have hb2 := below_then hb hb1
   go_wp2_with fail
   go_ret2
   exact ⟨rfl, hb2⟩
end Go.Proofs.YtbgimpeklblcjaaGreatDoor

namespace Go
open Go.RowKit
/-- what the region looks at -/
def GrS (b0 kB : Nat) (tv : Value) (bn : Nat) (nm : Nam) (w0 W : World) : Prop :=
 W.cell? ⟨b0, 0, none⟩ = some (.pointer (some ⟨kB, 0, none⟩)) ∧ W.cell? ⟨kB, 0, none⟩ = some tv ∧ W.cell? ⟨bn, 0, none⟩ = some (.string (S nm)) ∧ Below w0.heap.size w0 W
theorem GrS.on {b0 kB : Nat} {tv : Value} {bn : Nat} {nm : Nam} {w0 W W' : World} (h : GrS b0 kB tv bn nm w0 W) (hb : Below W.heap.size W W') : GrS b0 kB tv bn nm w0 W' :=
 ⟨cell_on h.1 hb, cell_on h.2.1 hb, cell_on h.2.2.1 hb, below_then h.2.2.2 hb⟩
end Go
namespace Go.Proofs.YtbgimpeklblcjaaGreatDoor
open Go.RowKit Go.Maps
def groundV (b : Nat) : Value := .func (.func 116) #[] #[.pointer (some ⟨b + 2, 0, none⟩), .pointer (some ⟨b, 0, none⟩), .pointer (some ⟨b + 3, 0, none⟩)]
/-- the search of what is needed: its boxes, what is marked -/
structure GInv (k : SK) (wE : World) (ws : List Nat) (s : Nat) (w : World) (xs : List Nat) : Prop where
 below : Below wE.heap.size wE w
 srch : Srch k wE ws s
 c0 : w.cell? ⟨wE.heap.size, 0, none⟩ = some (.pointer (some ⟨k.B, 0, none⟩))
 c2 : w.cell? ⟨wE.heap.size + 2, 0, none⟩ = some (.slice (some ⟨wE.heap.size + 1, 0, none⟩) k.ts.length k.ts.length)
 c3 : w.cell? ⟨wE.heap.size + 3, 0, none⟩ = some (groundV wE.heap.size)
 row : w.rowIs (wE.heap.size + 1) 4 k.ts.length (fun j => .bool (decide (j ∈ xs)))
 all : ∀ x ∈ xs, x < k.ts.length
theorem GInv.on {k : SK} {wE : World} {ws : List Nat} {s : Nat} {w w' : World} {xs : List Nat} (h : GInv k wE ws s w xs) (hb : Below w.heap.size w w') : GInv k wE ws s w' xs :=
 ⟨below_then h.below hb, h.srch, cell_on h.c0 hb, cell_on h.c2 hb, cell_on h.c3 hb, h.row.of_block (hb.block _ h.row.lt), h.all⟩
theorem GInv.now {k : SK} {wE : World} {ws : List Nat} {s : Nat} {w : World} {xs : List Nat} (h : GInv k wE ws s w xs) : Srch k w ws s := h.srch.on h.below
theorem GInv.mark {k : SK} {wE : World} {ws : List Nat} {s : Nat} {w : World} {xs : List Nat} (h : GInv k wE ws s w xs) {i : Nat} (hi : i < k.ts.length) : GInv k wE ws s (w.setCell ⟨wE.heap.size + 1, i, none⟩ (.bool true)) (xs ++ [i]) := by
 have ne0 : wE.heap.size ≠ wE.heap.size + 1 := by omega
 have ne2 : wE.heap.size + 2 ≠ wE.heap.size + 1 := by omega
 have ne3 : wE.heap.size + 3 ≠ wE.heap.size + 1 := by omega
 refine ⟨h.below.setCell (by show wE.heap.size ≤ wE.heap.size + 1; omega) _, h.srch, ?_, ?_, ?_, ?_, ?_⟩
 ·rw [World.cell?_setCell_far _ _ _ _ (fun e => ne0 e.symm)]; exact h.c0
 ·rw [World.cell?_setCell_far _ _ _ _ (fun e => ne2 e.symm)]; exact h.c2
 ·rw [World.cell?_setCell_far _ _ _ _ (fun e => ne3 e.symm)]; exact h.c3
 ·refine (h.row.set i _).congr fun j hj => ?_
  by_cases e : j = i
  ·subst e; simp
  ·rw [if_neg e]
   have : (j ∈ xs ++ [i]) ↔ j ∈ xs := by simp [e]
   rw [decide_eq_decide.2 this]
 ·intro x hx
  rcases List.mem_append.1 hx with hx | hx
  ·exact h.all x hx
  ·simp at hx; omega
/-- what a search from one has come to -/
def GPost (k : SK) (wE : World) (ws : List Nat) (s : Nat) (xs : List Nat) (i : Nat) (e : Ending) (w' : World) : Prop :=
 e = .returned (.tuple #[]) ∧ ∃ xs', GInv k wE ws s w' xs' ∧ ((∃ p, takenL k.T ws i = some p) → Grew (StepG k.T ws) xs xs' i) ∧ (takenL k.T ws i = none → xs' = xs)
def GcRel (k : SK) (wE : World) (ws : List Nat) (s : Nat) (xs : List Nat) (i : Nat) (o : DOff) (x : Value) (wr : World) : Prop :=
 ∃ (m : Nat) (xs' : List Nat), m ≤ o.ns.length ∧ x = .int .i64 (m : Int) ∧ GInv k wE ws s wr xs' ∧ Grows (StepG k.T ws) xs xs' i ∧
  ∀ n ∈ o.ns.take m, ∀ j, j < k.T.length → namL k.T j = n.1.name → (∃ p, takenL k.T ws j = some p) → j ∈ xs'
set_option maxRecDepth 100000 in
set_option maxHeartbeats 8000000 in
theorem ground_any {k : SK} (hk : SK.Ok k) {wE : World} {ws : List Nat} {s : Nat} (hw : ∀ j, j < k.ts.length → WayOk k ws j) (m : Nat) :
  ∀ (w : World) (xs : List Nat) (i : Nat), GInv k wE ws s w xs → leftN (List.range k.ts.length) xs = m → i < k.ts.length →
  Calls Tryz.prog 116 #[.int .i64 (i : Int), .pointer (some ⟨wE.heap.size + 2, 0, none⟩), .pointer (some ⟨wE.heap.size, 0, none⟩), .pointer (some ⟨wE.heap.size + 3, 0, none⟩)] w (GPost k wE ws s xs i) := by
 induction m using Nat.strongRecOn with
 | ind m ih =>
 intro w xs i hI hm hil
 have c0 := hI.c0
 have c2 := hI.c2
 have r1 := hI.row.cell hil
 have f1 := hI.row.frozen i
 have hzr := hI.row.lt
 have hz3 := cell_lt hI.c3
 have i0 : (0 : Int) ≤ (i : Int) := by omega
 have i1 : (i : Int) < (k.ts.length : Int) := by omega
 have HIh := Lib.hid ih
 have HW := Lib.hid hw
 have HK := Lib.hid hk
 have HI := Lib.hid hI
 have Hm := Lib.hid hm
 obtain ⟨n, hn⟩ : ∃ n, k.ts.length = n := ⟨_, rfl⟩
 obtain ⟨E, hE⟩ : ∃ E, wE.heap.size = E := ⟨_, rfl⟩
 have HE := Lib.hid hE
 have Hn := Lib.hid hn
 rw [hn] at i1 c2
 rw [hE] at c0 c2 r1 f1 hzr hz3
 rw [hE]
 clear hI hm ih hw hk
 by_cases hx : i ∈ xs
 ·rw [decide_eq_true hx] at r1
  clear hE hn
  go_enter Tryz.func116, Tryz.ntmps116
  go_wp2_with fail
  have HF : Hid (GPost k wE ws s xs i (.returned (.tuple #[])) w) := ⟨rfl, xs, HI.out, fun _ => .there hx, fun _ => rfl⟩
  refine bodyPost_ret (v := .tuple #[]) (by kernel_rfl) rfl HF.out
 rw [decide_eq_false hx] at r1
 have HX := Lib.hid hx
 have HTk := Lib.hid (quiet_below (taken_as HK.out HI.out.now (HW.out i hil)))
 clear hx hE hn
 go_enter Tryz.func116, Tryz.ntmps116
 go_wp2_with fail
 refine HTk.out.mono ?_
 rintro e w1 ⟨⟨p, rfl, hp⟩, hb1⟩
 have HI1 := Lib.hid (HI.out.on hb1)
 rcases hp with ⟨hp, rfl⟩ | ⟨o, b, f, hp, rfl, ho⟩
 ·have HF : Hid (GPost k wE ws s xs i (.returned (.tuple #[])) w1) := ⟨rfl, xs, HI1.out, fun ⟨q, hq⟩ => (by rw [hp] at hq; cases hq), fun _ => rfl⟩
  clear hp
  go_wp2_with fail
  refine bodyPost_ret (v := .tuple #[]) (by kernel_rfl) rfl HF.out
 have a0 := HI1.out.c0
 have a2 := HI1.out.c2
 have ar := HI1.out.row.cell hil
 have af := HI1.out.row.frozen i
 rw [HE.out] at a0 a2 ar af
 rw [Hn.out] at a2
 have hz1 := cell_lt ar
 have HI2 := Lib.hid (HI1.out.mark hil)
 rw [HE.out] at HI2
 have HP := Lib.hid hp
 have HTk2 := Lib.hid (quiet_below (taken_as HK.out HI2.out.now (HW.out i hil)))
 clear hp r1 f1 c0 c2
 go_wp2_with fail
 refine HTk2.out.mono ?_
 rintro e w3 ⟨⟨p2, rfl, hp2⟩, hb3⟩
 obtain ⟨o2, b2, f2, ho2, hpe, hO2⟩ := PtrAt.off hp2 HP.out
 subst hpe
 have HI3 := Lib.hid (HI2.out.on hb3)
 obtain ⟨_, _, _, _, _, _, o5, hok⟩ := OffIs.on hO2 HI3.out.now.below
 have HO2 := Lib.hid hO2
 have hokl := hok.1.len.1
 have honl : o2.ns.length ≤ 9223372036854775807 := Nat.le_trans hokl (by decide)
 obtain ⟨oa, oc, hov⟩ := hok.2
 rw [hov] at o5
 have hok1 := hO2.2.2.2.2.2.2.2.1
 rw [hov] at hok1
 have HOk := Lib.hid hok1
 have HPo : Hid (takenL k.T ws i = some o2.po) := by show _ = _; rw [ho2]; exact HP.out
 have hGs : Grows (StepG k.T ws) xs (xs ++ [i]) i := .start xs i
 have HGs := Lib.hid hGs
 clear hok hok1 hov hO2 ho2 hokl hp2 a0 a2 ar af
 go_wp2_with fail
 go_loopw [29] (fun x wr => GcRel k wE ws s xs i o2 x wr) (fun x _ => o2.ns.length - (intOf x).toNat)
 case atStart => exact ⟨0, xs ++ [i], Nat.zero_le _, rfl, HI3.out, HGs.out, fun n hn => by simp at hn⟩
 case round =>
  obtain ⟨m', xs', hm', rfl, hI', hG, hall⟩ := hrel
  have HG := Lib.hid hG
  have HA := Lib.hid hall
  have HI' := Lib.hid hI'
  clear hall hG hI'
  by_cases hlt : m' < o2.ns.length
  ·have j0 : (0 : Int) ≤ (m' : Int) := by omega
   have j1 : (m' : Int) < (o2.ns.length : Int) := by omega
   have hbw := HI'.out.now.below
   obtain ⟨bx, ox, rfl, hbx, d0, d1⟩ := HOk.out.at' hbw hlt
   have hmem := List.getElem_mem hlt
   have HT := Lib.hid (List.take_succ_eq_append_getElem hlt)
   have hrv := HOk.out.2 _ hmem
   obtain ⟨⟨xn, xv⟩, hxe⟩ : ∃ x, o2.ns[m'] = x := ⟨_, rfl⟩
   rw [hxe] at d0 d1 hmem HT hrv
   obtain ⟨_, ra, rcap, hrv⟩ := hrv
   simp only at d0 d1 hrv
   subst hrv
   have hxm : xn ∈ o2.po.ws := List.mem_map.2 ⟨_, hmem, rfl⟩
   obtain ⟨pp, hpp, hop⟩ := taken_mem HPo.out
   obtain ⟨j, hjT, hjn⟩ := mem_nam (HK.out.W.cl pp hpp _ hop xn hxm)
   have hjl : j < k.ts.length := by rw [← k.T_len]; exact hjT
   have hjp : pname k.ts[j] = xn.name := by rw [← hjn, k.nam hjl]; rfl
   have HJ := Lib.hid (⟨hjT, hjn, hxm⟩ : _ ∧ _ ∧ _)
   have hup : (k.ts.map pname).Pairwise (· < ·) := by have := HK.out.W.up; rwa [show k.T.map PP.nm = k.ts.map pname from (by show (ppL k.ts).map PP.nm = _; unfold ppL; rw [List.map_map]; rfl)] at this
   have hkx : k.ts.length ≤ 1000000 := by have := HK.out.Bd.few; rwa [k.T_len] at this
   have hal := (Below.refl wr.heap.size wr).alloc (Nat.le_refl _) (.cells #[.string (S xn.name), .slice ra xn.bs.length rcap] 60)
   have HIa := Lib.hid (HI'.out.on hal)
   have hd := (Below.refl (wr.alloc (.cells #[.string (S xn.name), .slice ra xn.bs.length rcap] 60)).heap.size (wr.alloc (.cells #[.string (S xn.name), .slice ra xn.bs.length rcap] 60))).drew
   have e0 := box_cells (Below.refl (wr.heap.size + 1) (wr.alloc (.cells #[.string (S xn.name), .slice ra xn.bs.length rcap] 60))) 0
   simp only [List.getElem?_toArray, List.getElem?_cons_zero] at e0
   have a0 := HIa.out.c0
   have a3 := HIa.out.c3
   rw [HE.out] at a0 a3
   obtain ⟨s0, _⟩ := HIa.out.now.cells
   have hst : GrS E k.B (.slice k.ta k.ts.length k.tc) wr.heap.size xn.name (wr.alloc (.cells #[.string (S xn.name), .slice ra xn.bs.length rcap] 60)).drew (wr.alloc (.cells #[.string (S xn.name), .slice ra xn.bs.length rcap] 60)).drew :=
    ⟨cell_on a0 hd, cell_on s0 hd, cell_on e0 hd, Below.refl _ _⟩
   have HBs : Hid (∀ W, Below (wr.alloc (.cells #[.string (S xn.name), .slice ra xn.bs.length rcap] 60)).drew.heap.size (wr.alloc (.cells #[.string (S xn.name), .slice ra xn.bs.length rcap] 60)).drew W → Calls Tryz.prog 117 #[.slice k.ta k.ts.length k.tc, .string (S xn.name), .func (.func 118) #[] #[]] W fun e w' => e = .returned (.tuple #[.int .i64 (j : Int), .bool true]) ∧ Below W.heap.size W w') := fun W hW =>
    bsearch_as k.ta k.tc k.ts j hjl xn.name hjp W (HK.out.tab.below (HIa.out.on (hd.trans (hW.mono hd.size))).now.below (Nat.le_refl _)) hup hkx
   have HD := Lib.hid hd
   clear hxe hmem hxm hop hpp hjT hjn hjp hup hal a0 s0 hbw o5
   go_wp2_with fail
   generalize wr.alloc (.cells #[.string (S xn.name), .slice ra xn.bs.length rcap] 60) = wz at *
   refine wp_region_held_drew (S := (fun W => GrS E k.B (.slice k.ta k.ts.length k.tc) wr.heap.size xn.name wz.drew W)) (by kernel_rfl) (hst) (fun hHeld => ?_)
   refine wpAnyH_take (i := 0) (v := ?_) rfl (by kernel_rfl) (by kernel_rfl) (by kernel_rfl) (fun _ _ _ h => h) (Or.inl ⟨by kernel_rfl, ?_⟩) hHeld ?_
   rotate_left
   ·(rintro W ⟨e0, e1, e2, _⟩; go_simp; (try with_reducible rfl))
   (try simp only [Act.put, putL])
   refine wpAnyH_take (i := 1) (v := ?_) rfl (by kernel_rfl) (by kernel_rfl) (by kernel_rfl) (fun _ _ _ h => h) (Or.inl ⟨by kernel_rfl, ?_⟩) hHeld ?_
   rotate_left
   ·(rintro W ⟨e0, e1, e2, _⟩; go_simp; (try with_reducible rfl))
   (try simp only [Act.put, putL])
   refine wpAnyH_take (i := 2) (v := ?_) rfl (by kernel_rfl) (by kernel_rfl) (by kernel_rfl) (fun _ _ _ h => h) (Or.inl ⟨by kernel_rfl, ?_⟩) hHeld ?_
   rotate_left
   ·(rintro W ⟨e0, e1, e2, _⟩; go_simp; (try with_reducible rfl))
   (try simp only [Act.put, putL])
   refine wpAnyH_take (i := 3) (v := ?_) rfl (by kernel_rfl) (by kernel_rfl) (by kernel_rfl) (fun _ _ _ h => h) (Or.inl ⟨by kernel_rfl, ?_⟩) hHeld ?_
   rotate_left
   ·(rintro W ⟨e0, e1, e2, _⟩; go_simp; (try with_reducible rfl))
   (try simp only [Act.put, putL])
   refine wpAnyH_take (i := 4) (v := ?_) rfl (by kernel_rfl) (by kernel_rfl) (by kernel_rfl) (fun _ _ _ h => h) (Or.inl ⟨by kernel_rfl, ?_⟩) hHeld ?_
   rotate_left
   ·(rintro W ⟨e0, e1, e2, _⟩; go_simp; (try with_reducible rfl))
   (try simp only [Act.put, putL])
   refine wpAnyH_take (i := 5) (v := ?_) rfl (by kernel_rfl) (by kernel_rfl) (by kernel_rfl) (fun _ _ _ h => h) (Or.inl ⟨by kernel_rfl, ?_⟩) hHeld ?_
   rotate_left
   ·(rintro W ⟨e0, e1, e2, _⟩; go_simp; (try with_reducible rfl))
   (try simp only [Act.put, putL])
   refine wpAnyH_ready (rs := [6]) (by kernel_rfl) (by simp) ?_
   refine AllReadyH.cons rfl (fun K hK => ?_) AllReadyH.nil
   go_simp
   refine (HBs.out _ hHeld.2.2.2).mono ?_
   rintro e w12 ⟨rfl, hk12⟩
   refine hK.out _ _ (hHeld.on hk12) (fun hHeld => ?_)
   clear hK K
   (try simp only [Act.put, putL])
   refine wpAnyH_take (i := 7) (v := ?_) rfl (by kernel_rfl) (by kernel_rfl) (by kernel_rfl) (fun _ _ _ h => h) (Or.inl ⟨by kernel_rfl, ?_⟩) hHeld ?_
   rotate_left
   ·(rintro W ⟨e0, e1, e2, _⟩; go_simp; (try with_reducible rfl))
   (try simp only [Act.put, putL])
   refine wpAnyH_take (i := 8) (v := ?_) rfl (by kernel_rfl) (by kernel_rfl) (by kernel_rfl) (fun _ _ _ h => h) (Or.inl ⟨by kernel_rfl, ?_⟩) hHeld ?_
   rotate_left
   ·(rintro W ⟨e0, e1, e2, _⟩; go_simp; (try with_reducible rfl))
   (try simp only [Act.put, putL])
   refine wpAnyH_take (i := 9) (v := ?_) rfl (by kernel_rfl) (by kernel_rfl) (by kernel_rfl) (fun _ _ _ h => h) (Or.inl ⟨by kernel_rfl, ?_⟩) hHeld ?_
   rotate_left
   ·(rintro W ⟨e0, e1, e2, _⟩; go_simp; (try with_reducible rfl))
   (try simp only [Act.put, putL])
   refine wpAnyH_take (i := 10) (v := ?_) rfl (by kernel_rfl) (by kernel_rfl) (by kernel_rfl) (fun _ _ _ h => h) (Or.inl ⟨by kernel_rfl, ?_⟩) hHeld ?_
   rotate_left
   ·(rintro W ⟨e0, e1, e2, _⟩; go_simp; (try with_reducible rfl))
   (try simp only [Act.put, putL])
   refine wpAnyH_take (i := 11) (v := ?_) rfl (by kernel_rfl) (by kernel_rfl) (by kernel_rfl) (fun _ _ _ h => h) (Or.inl ⟨by kernel_rfl, ?_⟩) hHeld ?_
   rotate_left
   ·(rintro W ⟨e0, e1, e2, _⟩; go_simp; (try with_reducible rfl))
   (try simp only [Act.put, putL])
   refine wpAnyH_done (by kernel_rfl) ?_ _
   have hbE := HD.out.trans (hHeld.2.2.2.mono HD.out.size)
   have HI5 := Lib.hid (HIa.out.on hbE)
   have a5 := HI5.out.c3
   rw [HE.out] at a5
   have hlt5 : leftN (List.range k.ts.length) xs' < m := by
    rw [← Hm.out]
    obtain ⟨cs, hcs, _⟩ := HG.out.ext
    refine leftN_lt (x := i) (fun x hx => ?_) (List.mem_range.2 hil) HX.out ?_
    ·rw [hcs]; exact List.mem_append_left _ hx
    ·rw [hcs]; simp
   have HC := Lib.hid (HIh.out _ hlt5 w12 xs' j HI5.out rfl hjl)
   rw [HE.out] at HC
   clear hst hHeld a3 hlt5 e0 d0 d1
   unfold groundV at a5
   go_wp2_with fail
   refine HC.out.mono ?_
   rintro e w6 ⟨rfl, xs'', hI6, hg1, hg2⟩
   have HN : Hid (GcRel k wE ws s xs i o2 (.int .i64 ((m' + 1 : Nat) : Int)) w6) := by
    by_cases htk : ∃ p, takenL k.T ws j = some p
    ·have hgr := hg1 htk
     refine ⟨m' + 1, xs'', hlt, rfl, hI6, HG.out.step ⟨HJ.out.1, htk, o2.po, HPo.out, xn, HJ.out.2.2, HJ.out.2.1.symm⟩ hgr, fun n hn jj hjj hjn hjt => ?_⟩
     rw [HT.out] at hn
     rcases List.mem_append.1 hn with hn | hn
     ·exact hgr.sub (HA.out n hn jj hjj hjn hjt)
     ·simp at hn; subst hn
      have := HK.out.W.inj hjj HJ.out.1 (hjn.trans HJ.out.2.1.symm)
      subst this; exact hgr.mem
    ·have hno : takenL k.T ws j = none := by
      cases h : takenL k.T ws j with
      | none => rfl
      | some p => exact absurd ⟨p, h⟩ htk
     have := hg2 hno
     subst this
     refine ⟨m' + 1, xs'', hlt, rfl, hI6, HG.out, fun n hn jj hjj hjn hjt => ?_⟩
     rw [HT.out] at hn
     rcases List.mem_append.1 hn with hn | hn
     ·exact HA.out n hn jj hjj hjn hjt
     ·simp at hn; subst hn
      have := HK.out.W.inj hjj HJ.out.1 (hjn.trans HJ.out.2.1.symm)
      subst this
      rw [hno] at hjt; obtain ⟨_, h⟩ := hjt; cases h
   clear hI6 hg1 hg2
   go_wp2_with fail
   go_roundw
   case rel => exact HN.out
   case measure => simp [intOf]; omega
  ·have j1 : decide (m' < o2.ns.length) = false := decide_eq_false hlt
   have HF : Hid (GPost k wE ws s xs i (.returned (.tuple #[])) wr) := by
    refine ⟨rfl, xs', HI'.out, fun _ => HG.out.done fun d hd => ?_, fun h => by rw [HP.out] at h; cases h⟩
    obtain ⟨h1, h2, o', h3, n, h4, h5⟩ := hd
    rw [HPo.out] at h3
    injection h3 with h3
    subst h3
    obtain ⟨y, hy, rfl⟩ := List.mem_map.1 h4
    refine HA.out y ?_ d h1 h5.symm h2
    rw [List.take_of_length_le (by omega)]; exact hy
   clear hlt
   go_wp2_with fail
   go_end0
   exact HF.out
end Go.Proofs.YtbgimpeklblcjaaGreatDoor

namespace Go.Proofs.YtbgimpeklblcjaaGreatDoor
open Go.RowKit Go.Maps
theorem info_bool : (Tryz.prog.info? 4).map (fun i => (i.zero, i.size, i.bytes)) = some (some (.bool false), 1, 1) := by kernel_rfl
theorem info_int : (Tryz.prog.info? 3).map (fun i => (i.zero, i.size, i.bytes)) = some (some (.int .i64 0), 1, 8) := by kernel_rfl
theorem ground_start {k : SK} {W : World} {ws : List Nat} {s : Nat} (h : Srch k W ws s) (n : Nat) (hn : k.ts.length = n) :
  GInv k W ws s ((((W.alloc (.cells #[.pointer (some ⟨k.B, 0, none⟩)] 87)).alloc (.cells (madeCells #[.bool false] n) 4)).alloc (.cells #[.slice (some ⟨W.heap.size + 1, 0, none⟩) n n] 80)).alloc (.cells #[groundV W.heap.size] 151)) [] := by
 subst hn
 refine ⟨(((((Below.refl _ _).alloc (by simp) _).alloc (by simp) _).alloc (by simp <;> omega) _).alloc (by simp <;> omega) _), h, by go_simp, by go_simp, by unfold groundV; go_simp, ?_, fun x hx => by cases hx⟩
 have h1 := World.rowIs_made (W.alloc (.cells #[.pointer (some ⟨k.B, 0, none⟩)] 87)) (.bool false) k.ts.length 4
 rw [World.size_alloc] at h1
 refine ((h1.alloc _).alloc _).congr fun j _ => ?_
 simp
def GaRel (k : SK) (wE : World) (ws : List Nat) (s : Nat) (x : Value) (wr : World) : Prop :=
 ∃ (i : Nat) (xs ss : List Nat), i ≤ k.ts.length ∧ x = .int .i64 (i : Int) ∧ GInv k wE ws s wr xs ∧ GrowsAll (StepG k.T ws) ss xs ∧ (∀ j, j ∈ ss ↔ (j < i ∧ StartG k.T k.ak ws j))
def GzRel (k : SK) (wE : World) (ws : List Nat) (s : Nat) (xs : List Nat) (x : Value) (wr : World) : Prop :=
 ∃ i : Nat, i ≤ k.ts.length ∧ x = .int .i64 (i : Int) ∧ GInv k wE ws s wr xs ∧ ∀ j, j < i → (∃ p, takenL k.T ws j = some p) → j ∈ xs
set_option maxRecDepth 100000 in
set_option maxHeartbeats 8000000 in
theorem grounded_as {k : SK} (hk : SK.Ok k) {W : World} {ws : List Nat} {s : Nat} (h : Srch k W ws s) (hw : ∀ j, j < k.ts.length → WayOk k ws j) :
  Calls Tryz.prog 84 #[.pointer (some ⟨k.B, 0, none⟩)] W fun e w' => (∃ b, e = .returned (.bool b) ∧ (b = true ↔ GroundW k.T k.ak ws)) ∧ Below W.heap.size W w' := by
 have hkx : k.ts.length ≤ 1000000 := by have := hk.Bd.few; rwa [k.T_len] at this
 have hI0 := ground_start h _ rfl
 obtain ⟨c0, _, _, _, _, _, _, hz⟩ := h.cells
 have hz1 : k.B < W.heap.size + 1 := by omega
 have hz2 : k.B < W.heap.size + 1 + 1 := by omega
 have hz3 : k.B < W.heap.size + 1 + 1 + 1 := by omega
 have hz4 : k.B < W.heap.size + 1 + 1 + 1 + 1 := by omega
 have hmk := fun w : World => run_make_row' (P := Tryz.prog) 80 4 (.bool false) 1 Tryz.underlying80 info_bool rfl .i64 .i64 k.ts.length (by omega) (by omega) w
 have HW := Lib.hid hw
 have HK := Lib.hid hk
 have HS := Lib.hid h
 clear h hk hw
 go_enter Tryz.func84, Tryz.ntmps84
 go_wp2_with fail
 have hg0 : groundV W.heap.size = .func (.func 116) #[] #[.pointer (some ⟨W.heap.size + 1 + 1, 0, none⟩), .pointer (some ⟨W.heap.size, 0, none⟩), .pointer (some ⟨W.heap.size + 1 + 1 + 1, 0, none⟩)] := rfl
 rw [hg0] at hI0
 generalize ((((W.alloc (.cells #[.pointer (some ⟨k.B, 0, none⟩)] 87)).alloc (.cells (madeCells #[.bool false] k.ts.length) 4)).alloc (.cells #[.slice (some ⟨W.heap.size + 1, 0, none⟩) k.ts.length k.ts.length] 80)).alloc (.cells #[.func (.func 116) #[] #[.pointer (some ⟨W.heap.size + 1 + 1, 0, none⟩), .pointer (some ⟨W.heap.size, 0, none⟩), .pointer (some ⟨W.heap.size + 1 + 1 + 1, 0, none⟩)]] 151)) = W4 at *
 simp only [Nat.add_assoc, Nat.reduceAdd]
 clear hg0 hmk hz hz1 hz2 hz3 hz4 c0
 obtain ⟨n, hn⟩ : ∃ n, k.ts.length = n := ⟨_, rfl⟩
 obtain ⟨E, hE⟩ : ∃ E, W.heap.size = E := ⟨_, rfl⟩
 have Hn := Lib.hid hn
 have HE := Lib.hid hE
 have hn9 : n ≤ 1000000 := by omega
 rw [hn, hE]
 have HI0 := Lib.hid hI0
 clear hn hE hI0 hkx
 go_loopw [19] (fun x wr => GaRel k W ws s x wr) (fun x _ => n - (intOf x).toNat)
 case atStart => exact ⟨0, [], [], Nat.zero_le _, rfl, HI0.out, .start, fun j => ⟨fun h => (by cases h), fun h => absurd h.1 (Nat.not_lt_zero _)⟩⟩
 case round =>
  obtain ⟨i, xs, ss, hi, rfl, hI, hG, hss⟩ := hrel
  rw [Hn.out] at hi
  have c0 := hI.c0
  have c3 := hI.c3
  obtain ⟨_, s1, _, _, _, _, _, _⟩ := hI.now.cells
  have HI := Lib.hid hI
  have HG := Lib.hid hG
  have HSs := Lib.hid hss
  rw [HE.out] at c0 c3
  rw [Hn.out] at s1
  clear hI hG hss
  by_cases hlt : i < n
  ·have i0 : (0 : Int) ≤ (i : Int) := by omega
   have i1 : (i : Int) < (n : Int) := by omega
   have hil : i < k.ts.length := by rw [Hn.out]; exact hlt
   have hiT : i < k.T.length := by rw [k.T_len]; exact hil
   have r1 := HI.out.now.ask.cell hil
   obtain ⟨ak, hak⟩ : ∃ b, k.ak (namL k.T i) = b := ⟨_, rfl⟩
   rw [hak] at r1
   have HAk := Lib.hid hak
   clear hak hil
   cases ak
   ·have HNx : Hid (∀ j, j ∈ ss ↔ (j < i + 1 ∧ StartG k.T k.ak ws j)) := by
     show ∀ _, _
     intro j
     rw [HSs.out j]
     constructor
     ·rintro ⟨h1, h2⟩; exact ⟨by omega, h2⟩
     ·rintro ⟨h1, h2⟩
      rcases Nat.lt_succ_iff_lt_or_eq.1 h1 with h | rfl
      ·exact ⟨h, h2⟩
      ·have := h2.2.1; rw [HAk.out] at this; cases this
    go_wp2_with fail
    go_roundw
    case rel => exact ⟨i + 1, xs, ss, by rw [Hn.out]; exact hlt, by go_num, HI.out, HG.out, HNx.out⟩
    case measure => simp [intOf]; omega
   ·have HC := Lib.hid (ground_any HK.out HW.out _ wr xs i HI.out rfl (by rw [Hn.out]; exact hlt))
    rw [HE.out] at HC
    unfold groundV at c3
    go_wp2_with fail
    refine HC.out.mono ?_
    rintro e w2 ⟨rfl, xs', hI2, hg1, hg2⟩
    have HN : Hid (GaRel k W ws s (.int .i64 ((i + 1 : Nat) : Int)) w2) := by
     by_cases htk : ∃ p, takenL k.T ws i = some p
     ·refine ⟨i + 1, xs', ss ++ [i], by rw [Hn.out]; exact hlt, rfl, hI2, HG.out.step (hg1 htk), fun j => ?_⟩
      rw [List.mem_append, HSs.out j, List.mem_singleton]
      constructor
      ·rintro (⟨h1, h2⟩ | rfl)
       ·exact ⟨by omega, h2⟩
       ·exact ⟨Nat.lt_succ_self _, hiT, HAk.out, htk⟩
      ·rintro ⟨h1, h2⟩
       rcases Nat.lt_succ_iff_lt_or_eq.1 h1 with h | rfl
       ·exact .inl ⟨h, h2⟩
       ·exact .inr rfl
     ·have hno : takenL k.T ws i = none := by
       cases h : takenL k.T ws i with
       | none => rfl
       | some p => exact absurd ⟨p, h⟩ htk
      have := hg2 hno
      subst this
      refine ⟨i + 1, xs', ss, by rw [Hn.out]; exact hlt, rfl, hI2, HG.out, fun j => ?_⟩
      rw [HSs.out j]
      constructor
      ·rintro ⟨h1, h2⟩; exact ⟨by omega, h2⟩
      ·rintro ⟨h1, h2⟩
       rcases Nat.lt_succ_iff_lt_or_eq.1 h1 with h | rfl
       ·exact ⟨h, h2⟩
       ·exact absurd h2.2.2 htk
    clear hI2 hg1 hg2
    go_wp2_with fail
    go_roundw
    case rel => exact HN.out
    case measure => simp [intOf]; omega
  ·have i1 : decide (i < n) = false := decide_eq_false hlt
   have HRe : Hid (∀ j, j ∈ xs ↔ ReachG k.T k.ak ws j) := by
    show ∀ _, _
    intro j
    rw [HG.out.iff j]
    constructor
    ·rintro ⟨s', hs', hg⟩; exact ⟨s', ((HSs.out s').1 hs').2, hg⟩
    ·rintro ⟨s', hs', hg⟩
     refine ⟨s', (HSs.out s').2 ⟨?_, hs'⟩, hg⟩
     have := hs'.1
     rw [k.T_len, Hn.out] at this; omega
   obtain ⟨w5, rfl⟩ : ∃ x, x = wr := ⟨_, rfl⟩
   clear hlt c3
   go_wp2_with fail
   go_loopw [38] (fun x wy => GzRel k W ws s xs x wy) (fun x _ => n - (intOf x).toNat)
   case atStart => exact ⟨0, Nat.zero_le _, rfl, HI.out, fun j h => absurd h (Nat.not_lt_zero _)⟩
   case round =>
    obtain ⟨j, hj, rfl, hI, hall⟩ := hrel
    rw [Hn.out] at hj
    have c0 := hI.c0
    have c2 := hI.c2
    have HA := Lib.hid hall
    have HI2 := Lib.hid hI
    rw [HE.out] at c0 c2
    rw [Hn.out] at c2
    by_cases hlt2 : j < n
    ·have j0 : (0 : Int) ≤ (j : Int) := by omega
     have j1 : (j : Int) < (n : Int) := by omega
     have hjl : j < k.ts.length := by rw [Hn.out]; exact hlt2
     have j3 : (j : Int) < (k.ts.length : Int) := by omega
     have r1 := hI.row.cell hjl
     rw [HE.out] at r1
     by_cases hx : j ∈ xs
     ·rw [decide_eq_true hx] at r1
      have HX := Lib.hid hx
      clear hall hI hjl hx
      go_wp2_with fail
      go_roundw
      case rel =>
       refine ⟨j + 1, by rw [Hn.out]; exact hlt2, by go_num, HI2.out, fun m hm hp => ?_⟩
       rcases Nat.lt_succ_iff_lt_or_eq.1 hm with h | rfl
       ·exact HA.out m h hp
       ·exact HX.out
      case measure => simp [intOf]; omega
     ·rw [decide_eq_false hx] at r1
      have HX := Lib.hid hx
      have HTk := Lib.hid (quiet_below (taken_as HK.out hI.now (HW.out j hjl)))
      have HJ := Lib.hid hjl
      clear hall hI hjl hx
      go_wp2_with fail
      refine HTk.out.mono ?_
      rintro e w6 ⟨⟨p, rfl, hp⟩, hb6⟩
      have HI3 := Lib.hid (HI2.out.on hb6)
      rcases hp with ⟨hp, rfl⟩ | ⟨o, b, f, hp, rfl, _⟩
      ·have HP := Lib.hid hp
       clear hp
       go_wp2_with fail
       go_roundw
       case rel =>
        refine ⟨j + 1, by rw [Hn.out]; exact hlt2, by go_num, HI3.out, fun m hm hq => ?_⟩
        rcases Nat.lt_succ_iff_lt_or_eq.1 hm with h | rfl
        ·exact HA.out m h hq
        ·obtain ⟨q, hq⟩ := hq; rw [HP.out] at hq; cases hq
       case measure => simp [intOf]; omega
      ·have HF : Hid (¬ GroundW k.T k.ak ws) := fun hg => HX.out ((HRe.out j).2 (hg j (by rw [k.T_len]; exact HJ.out) _ hp))
       have hbF := HI3.out.below
       clear hp
       go_wp2_with fail
       go_ret
       exact ⟨⟨false, rfl, fun h => (by cases h), fun h => absurd h HF.out⟩, hbF⟩
    ·have j1 : decide (j < k.ts.length) = false := decide_eq_false (by rw [Hn.out]; exact hlt2)
     have HF : Hid (GroundW k.T k.ak ws) := fun m hm p hp => (HRe.out m).1 (HA.out m (by rw [k.T_len, Hn.out] at hm; omega) ⟨p, hp⟩)
     have hbF := HI2.out.below
     clear hlt2 hall hI
     go_wp2_with fail
     go_ret
     exact ⟨⟨true, rfl, fun _ => HF.out, fun _ => rfl⟩, hbF⟩
end Go.Proofs.YtbgimpeklblcjaaGreatDoor

namespace Go
open Go.RowKit
/-- what a search from a package on has come to -/
def NoGood (g : List Nat → Prop) (l : List (List Nat)) : Prop := ∀ j (hj : j < l.length), ¬ g l[j]
theorem takenW {ws ws' : List Nat} {i j : Nat} (h : ws'.take i = ws.take i) (hj : j < i) : ws'[j]? = ws[j]? := by
 have h1 : (ws'.take i)[j]? = (ws.take i)[j]? := by rw [h]
 rwa [List.getElem?_take_of_lt hj, List.getElem?_take_of_lt hj] at h1
theorem min_step {s1 B P : Nat} (h : s1 ≤ B) : s1 + min (min P (B + 1)) (B + 1 - s1) = min (s1 + P) (B + 1) := by omega
theorem take_snoc {ws : List Nat} {i a : Nat} (h : ws[i]? = some a) : ws.take (i + 1) = ws.take i ++ [a] := by
 obtain ⟨h1, h2⟩ := List.getElem?_eq_some_iff.1 h
 rw [List.take_succ_eq_append_getElem h1, h2]
end Go
namespace Go.Proofs.YtbgimpeklblcjaaGreatDoor
open Go.RowKit Go.Maps
/-- the packages ahead: each has a way, and goes together with all ahead of it -/
def Ahead (k : SK) (ws : List Nat) (i : Nat) : Prop := ∀ j, j < i → (∃ a K, ws[j]? = some a ∧ k.ks[j]? = some K ∧ a < K) ∧ fitL k.T ws j = true
theorem Ahead.way {k : SK} {ws : List Nat} {i : Nat} (h : Ahead k ws i) {j : Nat} (hj : j < i) : WayOk k ws j := by
 obtain ⟨⟨a, K, h1, h2, h3⟩, _⟩ := h j hj
 have hl : j < k.ts.length := by rw [← k.ks_len]; exact (List.getElem?_eq_some_iff.1 h2).1
 refine ⟨hl, a, h1, ?_⟩
 rw [k.ks_at hl] at h2
 injection h2 with h2
 split at h2 <;> omega
theorem Ahead.turn {k : SK} {ws ws' : List Nat} {i : Nat} (h : Ahead k ws i) (e : ws'.take i = ws.take i) : Ahead k ws' i := fun j hj => by
 obtain ⟨⟨a, K, h1, h2, h3⟩, hf⟩ := h j hj
 refine ⟨⟨a, K, by rw [takenW e hj]; exact h1, h2, h3⟩, ?_⟩
 rw [fitL_congr (ws' := ws) fun m hm => takenW e (by omega)]; exact hf
def FromPost (k : SK) (ws : List Nat) (s i : Nat) (e : Ending) (w' : World) : Prop :=
 ∃ (found out : Bool) (ws' : List Nat) (s' : Nat), e = .returned (.tuple #[.bool found, .bool out]) ∧ Srch k w' ws' s' ∧ ws'.take i = ws.take i ∧ Part (GoodW k.T k.ak) (complW k.ks i (ws.take i)) s k.bud found out s' ws'
/-- the ways that are looked through -/
def FrRel (k : SK) (ws : List Nat) (s i K g : Nat) (x y : Value) (wr : World) : Prop :=
 ∃ (a : Nat) (ws1 : List Nat) (s1 : Nat), g + a = K ∧ x = .bool false ∧ y = .bool false ∧ Srch k wr ws1 s1 ∧ ws1.take i = ws.take i ∧ ws1[i]? = some a ∧ s1 = s + (doneW k.ks i (ws.take i) a).length ∧ s1 ≤ k.bud ∧ NoGood (GoodW k.T k.ak) (doneW k.ks i (ws.take i) a)
set_option maxRecDepth 100000 in
set_option maxHeartbeats 8000000 in
theorem from_end {k : SK} (hk : SK.Ok k) (W : World) (ws : List Nat) (s : Nat) (h : Srch k W ws s) (hs : s ≤ k.bud) (ha : Ahead k ws k.ts.length) :
  Calls Tryz.prog 45 #[.pointer (some ⟨k.B, 0, none⟩), .int .i64 (k.ts.length : Int)] W (FromPost k ws s k.ts.length) := by
 obtain ⟨c0, _⟩ := h.cells
 have hwl : ws.length ≤ k.T.length := by rw [k.T_len, h.wl]; exact Nat.le_refl _
 have hkl : k.ks.length = k.T.length := by rw [k.T_len]; exact k.ks_len
 have HOv : Hid (Calls Tryz.prog 83 #[.pointer (some ⟨k.B, 0, none⟩), .int .i64 1] W fun e w' => e = .returned (.bool (decide (s + 1 ≤ k.bud))) ∧ Srch k w' ws (s + 1)) :=
  over_as hk h hs (n := 1) (s + 1) (by omega)
 have HK := Lib.hid hk
 have HA := Lib.hid ha
 have HL := Lib.hid (⟨hwl, hkl⟩ : _ ∧ _)
 clear h hk ha hwl hkl
 go_enter Tryz.func45, Tryz.ntmps45
 go_wp2
 go_step3
 go_wp2_with fail
 refine HOv.out.mono ?_
 rintro e w1 ⟨rfl, hS1⟩
 have HS1 := Lib.hid hS1
 by_cases hb : s + 1 ≤ k.bud
 ·rw [decide_eq_true hb]
  have HGr := Lib.hid (grounded_as HK.out hS1 fun j hj => HA.out.way hj)
  clear hS1
  go_wp2_with fail
  refine HGr.out.mono ?_
  rintro e w2 ⟨⟨b, rfl, hbb⟩, hb2⟩
  have HF : Hid (FromPost k ws s k.ts.length (.returned (.tuple #[.bool b, .bool false])) w2) := by
   refine ⟨b, false, ws, s + 1, rfl, HS1.out.on hb2, rfl, ?_⟩
   have h := part_one (T := k.T) (asked := k.ak) (ks := k.ks) (ws := ws) (s := s) (B := k.bud) (b := b) HL.out.1 HL.out.2 hb (hbb.trans ⟨fun hg => ⟨fun i hi => (HA.out i (by rw [← k.T_len]; exact hi)).2, hg⟩, fun hg => hg.2⟩)
   rw [k.T_len] at h; exact h
  clear hbb
  go_wp2_with fail
  go_ret2
  exact HF.out
 ·rw [decide_eq_false hb]
  have HF : Hid (FromPost k ws s k.ts.length (.returned (.tuple #[.bool false, .bool true])) w1) := by
   refine ⟨false, true, ws, s + 1, rfl, HS1.out, rfl, ?_⟩
   have h := part_over (T := k.T) (asked := k.ak) (ks := k.ks) (ws := ws) (s := s) (B := k.bud) (n := s + 1) HL.out.2 (by omega)
   rw [k.T_len] at h; exact h
  clear hS1 hb
  go_wp2_with fail
  go_ret2
  exact HF.out
end Go.Proofs.YtbgimpeklblcjaaGreatDoor

namespace Go
open Go.RowKit
theorem set_take (ws : List Nat) (i a : Nat) : (ws.set i a).take i = ws.take i := by
 rw [List.take_set]
 exact List.set_eq_of_length_le (by simp; omega)
theorem set_at {ws : List Nat} {i : Nat} (h : i < ws.length) (a : Nat) : (ws.set i a)[i]? = some a := by
 rw [List.getElem?_set_self h]
theorem nogood_nil (g : List Nat → Prop) : NoGood g [] := fun _ hj => absurd hj (Nat.not_lt_zero _)
end Go
namespace Go.Proofs.YtbgimpeklblcjaaGreatDoor
open Go.RowKit Go.Maps
set_option maxRecDepth 100000 in
set_option maxHeartbeats 8000000 in
theorem from_as {k : SK} (hk : SK.Ok k) (d : Nat) : ∀ (W : World) (ws : List Nat) (s i : Nat), k.ts.length - i = d → i ≤ k.ts.length → Srch k W ws s → s ≤ k.bud → Ahead k ws i →
  Calls Tryz.prog 45 #[.pointer (some ⟨k.B, 0, none⟩), .int .i64 (i : Int)] W (FromPost k ws s i) := by
 induction d with
 | zero =>
  intro W ws s i hd hi h hs ha
  obtain rfl : i = k.ts.length := by omega
  exact from_end hk W ws s h hs ha
 | succ d ih =>
 intro W ws s i hd hi h hs ha
 have hil : i < k.ts.length := by omega
 obtain ⟨K, hK⟩ : ∃ K, k.ks[i]? = some K := ⟨_, List.getElem?_eq_getElem (by rw [k.ks_len]; exact hil)⟩
 have hKo : K ≤ 1000001 ∧ ∀ a, a < K → ∃ h : i < k.ts.length, a ≤ (k.ts[i]'h).os.length := by
  have h1 := k.ks_at hil
  rw [hK] at h1
  injection h1 with h1
  have h2 := (hk.Bd.os _ (List.mem_map.2 ⟨_, List.getElem_mem hil, rfl⟩)).1
  have e : (DPack.pp k.ts[i]).os.length = k.ts[i].os.length := List.length_map _
  rw [e] at h2
  refine ⟨by rw [h1]; split <;> omega, fun a h => ⟨hil, by rw [h1] at h; split at h <;> omega⟩⟩
 have hkx : k.ts.length ≤ 1000000 := by have := hk.Bd.few; rwa [k.T_len] at this
 obtain ⟨c0, _, c2, _, _, _, _, hz⟩ := h.cells
 have w0 := h.way.cell hil
 have f0 := h.way.frozen i
 have hzw := h.way.lt
 have hS0 := h.set hk hil 0
 have HIh := Lib.hid ih
 have HK := Lib.hid hk
 have HA := Lib.hid ha
 have HKi := Lib.hid hK
 have HKo := Lib.hid hKo
 have HS0 := Lib.hid hS0
 have HWl := Lib.hid h.wl
 have Hd := Lib.hid hd
 have i0 : (0 : Int) ≤ (i : Int) := by omega
 have i1 : (i : Int) < (k.ts.length : Int) := by omega
 have ine : ((i : Int) == (k.ts.length : Int)) = false := by rw [beq_eq_false_iff_ne]; omega
 obtain ⟨n, hn⟩ : ∃ n, k.ts.length = n := ⟨_, rfl⟩
 have Hn := Lib.hid hn
 rw [hn] at i1 ine c0 c2
 have hil' : i < n := by omega
 clear h hk ha hS0 hd ih hK hKo hi hn hil
 go_enter Tryz.func45, Tryz.ntmps45
 go_wp2
 go_step3
 go_wp2
 go_step3
 go_wp2_with fail
 have hst : FrRel k ws s i K K (.bool false) (.bool false) (W.setCell ⟨k.Bw, i, none⟩ (.int .i64 0)) :=
  ⟨0, ws.set i 0, s, by omega, rfl, rfl, HS0.out, set_take ws i 0, set_at (by rw [HWl.out, Hn.out]; exact hil') 0, by simp [doneW_zero], hs, by rw [doneW_zero]; exact nogood_nil _⟩
 have HSt := Lib.hid hst
 clear hst w0 f0 hzw hz c0 c2
 generalize W.setCell ⟨k.Bw, i, none⟩ (.int .i64 0) = W1 at *
 go_loopg [4, 5] K (fun g x y wr => FrRel k ws s i K g x y wr)
 case atStart => exact HSt.out
 case round =>
  obtain ⟨a, ws1, s1, hga, rfl, rfl, hS1, htk, hwa, hs1, hs1b, hng⟩ := hrel
  have hilk : i < k.ts.length := by rw [Hn.out]; exact hil'
  obtain ⟨c0, _, c2, c3, _, _, _, hz⟩ := hS1.cells
  obtain ⟨wc, fc, hzw⟩ := hS1.way_at hwa
  rw [Hn.out] at c0 c2 c3
  have HWy : Hid (∀ m, Calls Tryz.prog 85 #[.pointer (some ⟨k.B, 0, none⟩), .int .i64 (i : Int)] (wr.drewN m) fun e w' => e = .returned (.int .i64 (K : Int)) ∧ w' = wr.drewN m) := fun m => ways_as HK.out (hS1.on (below_drewN (Below.refl _ _) m)) hilk K HKi.out
  have HS1 := Lib.hid hS1
  have HR := Lib.hid (⟨htk, hwa, hs1, hng⟩ : _ ∧ _ ∧ _ ∧ _)
  have hSd : ∀ m, Srch k (wr.drewN m) ws1 s1 := fun m => hS1.on (below_drewN (Below.refl _ _) m)
  have HSd := Lib.hid hSd
  clear htk hwa hs1 hng hS1 hSd
  by_cases hlt : a < K
  ·have a1 : (a : Int) < (K : Int) := by omega
   have hwo : ∀ j, j ≤ i → WayOk k ws1 j := fun j hj => by
    rcases Nat.lt_or_eq_of_le hj with h | rfl
    ·exact (HA.out.turn HR.out.1).way h
    ·obtain ⟨h1, h2⟩ := HKo.out.2 a hlt
     exact ⟨h1, a, HR.out.2.1, h2⟩
   have HWo := Lib.hid hwo
   have hta1 := take_snoc HR.out.2.1
   rw [HR.out.1] at hta1
   have HT1 := Lib.hid hta1
   obtain ⟨ft, hft⟩ : ∃ b, fitL k.T ws1 i = b := ⟨_, rfl⟩
   have HFi : Hid (∀ m, Calls Tryz.prog 86 #[.pointer (some ⟨k.B, 0, none⟩), .int .i64 (i : Int)] (wr.drewN m) fun e w' => e = .returned (.bool ft) ∧ Below (wr.drewN m).heap.size (wr.drewN m) w') := fun m => by
    have h := fits_as HK.out (HSd.out m) HWo.out
    rw [hft] at h; exact h
   have HFt := Lib.hid hft
   clear hwo hta1 hft hlt
   go_wp2_with fail
   go_quiet ((go_at_call 85; exact Calls.quiet_of_same (HWy.out _)))
   go_wp2_with fail
   refine (HFi.out _).mono ?_
   rintro e w2 ⟨rfl, hb2⟩
   have HS2 := Lib.hid ((HSd.out _).on hb2)
   clear hb2 c0 c2 c3 wc fc hz hzw
   have e9 : ((a + 1 : Nat) : Int) = (a : Int) + 1 := by omega
   have E9 := Lib.hid e9
   have hal : a + 1 ≤ 1000001 := by have := HKo.out.1; omega
   cases ft
   ·obtain ⟨nb, hnb⟩ : ∃ x, min (prodL (k.ks.drop (i + 1))) (k.bud + 1) = x := ⟨_, rfl⟩
    obtain ⟨d0, _, d2, d3, _, _, _, hz⟩ := HS2.out.cells
    have db := HS2.out.bel.cell (i := i + 1) (by omega)
    have hzb := HS2.out.bel.lt
    rw [hnb] at db
    rw [Hn.out] at d0 d2 d3
    have j0 : (0 : Int) ≤ (i : Int) + 1 := by omega
    have j1 : (i : Int) + 1 < (n : Int) + 1 := by omega
    have j2 : (i : Int) + 1 < ((n + 1 : Nat) : Int) := by omega
    obtain ⟨s2, hs2⟩ : ∃ x, s1 + min nb (k.bud + 1 - s1) = x := ⟨_, rfl⟩
    have HOv := Lib.hid (over_as HK.out HS2.out hs1b (n := nb) s2 hs2.symm)
    have HS22 : Hid (s2 = min (s1 + prodL (k.ks.drop (i + 1))) (k.bud + 1)) := by
     show _ = _
     rw [← hs2, ← hnb]; exact min_step hs1b
    have HNg : Hid (∀ j (hj : j < (complW k.ks (i + 1) (ws.take i ++ [a])).length), ¬ GoodW k.T k.ak (complW k.ks (i + 1) (ws.take i ++ [a]))[j]) :=
     nofit (by rw [k.T_len]; exact hilk) HT1.out (by rw [← HT1.out, List.length_take, HS2.out.wl]; omega) HFt.out
    clear hnb hs2 e9
    go_wp2_with fail
    refine HOv.out.mono ?_
    rintro e w3 ⟨rfl, hS3⟩
    by_cases hbd : s2 ≤ k.bud
    ·rw [decide_eq_true hbd]
     have hs3 : s2 = s1 + prodL (k.ks.drop (i + 1)) := by have := HS22.out; omega
     obtain ⟨g0, _, g2, _, _, _, _, hz3⟩ := hS3.cells
     obtain ⟨gw, gf, hzw⟩ := hS3.way_at HR.out.2.1
     rw [Hn.out] at g0 g2
     have hS4 := hS3.set HK.out hilk (a + 1)
     rw [E9.out] at hS4
     have HNx : Hid (FrRel k ws s i K (gk - 1) (.bool false) (.bool false) (w3.setCell ⟨k.Bw, i, none⟩ (.int .i64 ((a : Int) + 1)))) := by
      obtain ⟨h1, h2, h3, h4⟩ := HR.out
      refine ⟨a + 1, ws1.set i (a + 1), s2, by omega, rfl, rfl, hS4, (set_take ws1 i (a + 1)).trans h1, set_at (by rw [HS2.out.wl]; exact hilk) _, ?_, hbd, ?_⟩
      ·rw [doneW_succ, List.length_append, complW_len, hs3, h3]; omega
      ·rw [doneW_succ]; exact nogood_append h4 HNg.out
     clear hS3 hS4 hs3 d0 d2 d3 db hz hzb
     go_wp2_with fail
     go_roundg (gk - 1)
     case rel => exact HNx.out
     case measure => omega
    ·rw [decide_eq_false hbd]
     have HF : Hid (FromPost k ws s i (.returned (.tuple #[.bool false, .bool true])) w3) := by
      obtain ⟨h1, h2, h3, h4⟩ := HR.out
      obtain ⟨q, hq⟩ := doneW_split HKi.out (show a < K by omega) (ws.take i)
      refine ⟨false, true, ws1, s2, rfl, hS3, h1, ?_⟩
      rw [hq]
      refine Part.behind h4 (.inr (.inr ⟨rfl, rfl, ?_, fun j hj _ => HNg.out j hj⟩)) (.inr rfl)
      rw [complW_len, ← h3]
      have := HS22.out; omega
     clear hS3 d0 d2 d3 db hz hzb hbd
     go_wp2_with fail
     go_ret2
     exact HF.out
   ·have hah : Ahead k ws1 (i + 1) := fun j hj => by
     rcases Nat.lt_succ_iff_lt_or_eq.1 hj with h | rfl
     ·exact HA.out.turn HR.out.1 j h
     ·exact ⟨⟨a, K, HR.out.2.1, HKi.out, by omega⟩, HFt.out⟩
    have HC0 := HIh.out w2 ws1 s1 (i + 1) (by have := Hd.out; omega) (by omega) HS2.out hs1b hah
    have e8 : ((i + 1 : Nat) : Int) = (i : Int) + 1 := by omega
    rw [e8] at HC0
    have HC := Lib.hid HC0
    clear HC0 hah e8 e9
    go_wp2_with fail
    refine HC.out.mono ?_
    rintro e w3 ⟨found, out, ws2, s2, rfl, hS3, htk2, hpart⟩
    rw [HT1.out] at hpart
    have hw2 : ws2[i]? = some a := by rw [takenW htk2 (Nat.lt_succ_self i)]; exact HR.out.2.1
    have ht2 : ws2.take i = ws.take i := by
     have h1 : (ws2.take (i + 1)).take i = (ws1.take (i + 1)).take i := by rw [htk2]
     rw [List.take_take, List.take_take, Nat.min_eq_left (Nat.le_succ i)] at h1
     exact h1.trans HR.out.1
    by_cases hfo : found = true ∨ out = true
    ·have HF : Hid (FromPost k ws s i (.returned (.tuple #[.bool found, .bool out])) w3) := by
      obtain ⟨h1, h2, h3, h4⟩ := HR.out
      obtain ⟨q, hq⟩ := doneW_split HKi.out (show a < K by omega) (ws.take i)
      refine ⟨found, out, ws2, s2, rfl, hS3, ht2, ?_⟩
      rw [hq]
      rw [h3] at hpart
      exact Part.behind h4 hpart hfo
     clear hS3 hpart htk2 hw2 ht2
     cases found
     ·have ho : out = true := by rcases hfo with h | h; cases h; exact h
      subst ho
      clear hfo
      go_wp2_with fail
      go_ret2
      exact HF.out
     ·clear hfo
      cases out
      ·go_wp2_with fail
       go_ret2
       exact HF.out
      ·go_wp2_with fail
       go_ret2
       exact HF.out
    ·have hff : found = false := by cases found with | false => rfl | true => exact absurd (.inl rfl) hfo
     have hoo : out = false := by cases out with | false => rfl | true => exact absurd (.inr rfl) hfo
     subst hff hoo
     have hp2 : s2 = s1 + (complW k.ks (i + 1) (ws.take i ++ [a])).length ∧ s2 ≤ k.bud ∧ NoGood (GoodW k.T k.ak) (complW k.ks (i + 1) (ws.take i ++ [a])) := by
      rcases hpart with ⟨h, _⟩ | ⟨_, _, h1, h2, h3⟩ | ⟨_, h, _⟩
      ·cases h
      ·exact ⟨h1, h2, h3⟩
      ·cases h
     obtain ⟨g0, _, g2, _, _, _, _, hz3⟩ := hS3.cells
     obtain ⟨gw, gf, hzw⟩ := hS3.way_at hw2
     rw [Hn.out] at g0 g2
     have hS4 := hS3.set HK.out hilk (a + 1)
     rw [E9.out] at hS4
     have HNx : Hid (FrRel k ws s i K (gk - 1) (.bool false) (.bool false) (w3.setCell ⟨k.Bw, i, none⟩ (.int .i64 ((a : Int) + 1)))) := by
      obtain ⟨h1, h2, h3, h4⟩ := HR.out
      refine ⟨a + 1, ws2.set i (a + 1), s2, by omega, rfl, rfl, hS4, (set_take ws2 i (a + 1)).trans ht2, set_at (by rw [hS3.wl]; exact hilk) _, ?_, hp2.2.1, ?_⟩
      ·rw [doneW_succ, List.length_append, hp2.1, h3]; omega
      ·rw [doneW_succ]; exact nogood_append h4 hp2.2.2
     clear hS3 hS4 hp2 hpart htk2 hw2 ht2 hfo
     go_wp2_with fail
     go_roundg (gk - 1)
     case rel => exact HNx.out
     case measure => omega
  ·have a1 : ¬ (a : Int) < (K : Int) := by omega
   obtain rfl : a = K := by omega
   have HF : Hid (∀ w', Srch k w' ws1 s1 → FromPost k ws s i (.returned (.tuple #[.bool false, .bool false])) w') := fun w' h => by
    refine ⟨false, false, ws1, s1, rfl, h, HR.out.1, ?_⟩
    have h1 := HR.out.2.2.1
    have h2 := HR.out.2.2.2
    rw [doneW_all HKi.out] at h1 h2
    exact .inr (.inl ⟨rfl, rfl, h1, hs1b, h2⟩)
   clear hlt
   go_wp2_with fail
   go_quiet ((go_at_call 85; exact Calls.quiet_of_same (HWy.out _)))
   go_wp2_with fail
   go_ret2
   exact HF.out _ (HSd.out _)
end Go.Proofs.YtbgimpeklblcjaaGreatDoor
