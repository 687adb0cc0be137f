/- Choices: the sorted keys of a map: the library's contracts. Choices: how small a case is: walks. Choices: is a package asked for (the program's): walks. How many ways there are, plainly. Choices: Count: the walk. -/
import Derived.Test.YtbgimpeklblcjaaGreatDoorShelfC
import Derived.Test.YtbgimpeklblcjaaGreatDoorTabLast
namespace Go.Proofs.YtbgimpeklblcjaaGreatDoor
open Go.RowKit Go.Maps Go.Sort Go.Shelf
theorem sortsZ (m : Nat) : AnyZ.SortsIn Tryz.prog Tryz.sorted111_ren Fence.wide m :=
 ⟨fun blk off cap ss W hH hblk hsz => callsIn_wide.2 (AnyM.slices_Sort_string Tryz.sort140 blk off cap ss W hH hblk hsz),
  fun p cap W => callsIn_wide.2 (AnyM.slices_Sort_string_none Tryz.sort140 p cap W)⟩
theorem keys_as : KeysSaid := fun mb W => callsIn_wide.1 (AnyZ.keys_in Tryz.keys112 Fence.wide 5 trivial rfl mb W)
set_option maxHeartbeats 1000000 in
theorem sorted_as : SortedSaid := fun b nn l hl w hown hn => by
 have hbl := hown.lt
 have hsz := size_idx l hl
 have hseq : SeqGives Fence.wide 2 Tryz.prog 141 #[.pointer (some ⟨w.heap.size, 0, none⟩)] encStr (fun ss => ss.Perm (strKeys (idxMap l))) (Maps.size (idxMap l)) (w.alloc (.cells #[.map (some b)] 142)) :=
  AnyZ.keys_gives (ρ := Tryz.keys112_ren) { Tryz.keys112 with } Fence.wide _ trivial rfl (by omega) w.heap.size b nn (idxMap l) _ (by simp) (by simp) (by
   obtain ⟨es, clock, hb, Ft, hs, hD⟩ := hown
   exact ⟨es, clock, (Below.heap_alloc _ _ b hbl).trans hb, Ft, hs, hD⟩)
 have h := callsIn_wide.1 (AnyZ.sorted_in Tryz.sorted111 Fence.wide 5 trivial trivial trivial trivial rfl (by omega) (sortsZ _) (enters_of Tryz.func140 (by kernel_rfl) rfl) 141 #[.pointer (some ⟨w.heap.size, 0, none⟩)] trivial (enters_of Tryz.func141 (by kernel_rfl) rfl) _ _ (by unfold maxLen; omega) (by omega) _ hseq)
 refine h.mono ?_
 rintro e w' ⟨v, ss, rfl, hp, hrow, hnil, hb⟩
 have hp2 : ss.Perm l := hp.trans (idx_perm hown keyS Tryz.underlying9 hl).symm
 rw [mergeSort_of_perm hp2] at hrow
 have hll : ss.length = l.length := hp2.length_eq
 refine ⟨v, rfl, Strs.of_owns (n := ss.length) (by simpa [strs, encStr, S] using hrow), ?_, ?_⟩
 ·obtain ⟨a, cap, hv⟩ := owns_len hrow
  exact ⟨a, cap, by rw [hv, hll]⟩
 ·exact ((Below.refl _ _).alloc (Nat.le_refl _) _).trans (hb.mono (by simp))
theorem table_as {lock : List Pik} {needs : List (Want × Value)} {ps : List DPack} {pk lk nv : Value} {w : World} (C : TabCtx lock needs ps pk lk nv w) :
  Calls Tryz.prog 79 #[pk, lk, nv] w (TablePost lock needs ps w) := table_any C keys_as sorted_as
theorem table_asW {lock : List Pik} {needs : List (Want × Value)} {ps : List DPack} {pk lk nv : Value} {w : World} (C : TabCtx lock needs ps pk lk nv w) :
  Calls Tryz.prog 79 #[pk, lk, nv] w (fun e w' => TablePost lock needs ps w e w' ∧ CapOk e) := table_anyW C keys_as sorted_as
end Go.Proofs.YtbgimpeklblcjaaGreatDoor

namespace Go
open Go.RowKit
/-- needs that are few and short -/
def NeedsP (ns : List (Want × Value)) : Prop := ns.length ≤ 30 ∧ ∀ x ∈ ns, x.1.bs.length ≤ 30 ∧ x.1.name.length ≤ 100 ∧ ∀ b ∈ x.1.bs, b.v.p.size ≤ 60
def OffP (o : DOff) : Prop := o.v.p.size ≤ 60 ∧ NeedsP o.ns
structure SmallP (ps : List DPack) (lock : List Pik) (needs : List (Want × Value)) : Prop where
 few : ps.length ≤ 30
 fewl : lock.length ≤ 60
 os : ∀ p ∈ ps, p.os.length ≤ 100 ∧ ∀ o ∈ p.os, OffP o
 lk : ∀ x ∈ lock, x.v.p.size ≤ 60
 nd : NeedsP needs
theorem NeedsP.len {ns : List (Want × Value)} (h : NeedsP ns) : (ns.map wname).length ≤ 30 := by rw [List.length_map]; exact h.1
theorem flat_len {α β : Type} {f : α → List β} {m : Nat} : ∀ (l : List α), (∀ x ∈ l, (f x).length ≤ m) → (l.flatMap f).length ≤ l.length * m
 | [], _ => by simp
 | x :: l, h => by
  rw [List.flatMap_cons, List.length_append, List.length_cons, Nat.add_mul]
  have h1 := h x (by simp)
  have h2 := flat_len l (fun y hy => h y (by simp [hy]))
  omega
theorem SmallP.names {ps : List DPack} {lock : List Pik} {needs : List (Want × Value)} (h : SmallP ps lock needs) : (allNames needs ps).length ≤ 1000000 ∧ ∀ a ∈ allNames needs ps, a.length ≤ 1000 := by
 constructor
 ·unfold allNames
  rw [List.length_append]
  have h1 := h.nd.len
  have h2 := flat_len (m := 3000) (f := fun p : DPack => p.os.flatMap fun o => o.ns.map wname) ps (fun p hp => by
   have h3 := flat_len (m := 30) (f := fun o : DOff => o.ns.map wname) p.os (fun o ho => ((h.os p hp).2 o ho).2.len)
   have h4 := (h.os p hp).1
   exact Nat.le_trans h3 (by omega))
  have h5 := h.few
  omega
 ·intro a ha
  rcases List.mem_append.1 ha with ha | ha
  ·obtain ⟨x, hx, rfl⟩ := List.mem_map.1 ha
   have := (h.nd.2 x hx).2.1
   show x.1.name.length ≤ 1000; omega
  ·obtain ⟨p, hp, ha⟩ := List.mem_flatMap.1 ha
   obtain ⟨o, ho, ha⟩ := List.mem_flatMap.1 ha
   obtain ⟨x, hx, rfl⟩ := List.mem_map.1 ha
   have := (((h.os p hp).2 o ho).2.2 x hx).2.1
   show x.1.name.length ≤ 1000; omega
def NpRel (ns : List (Want × Value)) (w : World) (i : Value) (wr : World) : Prop :=
 ∃ k : Nat, k ≤ ns.length ∧ i = .int .i64 (k : Int) ∧ (∀ x ∈ ns.take k, x.1.bs.length ≤ 30 ∧ x.1.name.length ≤ 100 ∧ ∀ b ∈ x.1.bs, b.v.p.size ≤ 60) ∧ wr = w
def BpRel (bs : List Bnd) (w : World) (i : Value) (wr : World) : Prop :=
 ∃ k : Nat, k ≤ bs.length ∧ i = .int .i64 (k : Int) ∧ (∀ b ∈ bs.take k, b.v.p.size ≤ 60) ∧ wr = w
theorem take_all {α : Type} {p : α → Prop} {l : List α} {k : Nat} (hk : k < l.length) {x : α} (hx : l[k] = x) (h : ∀ y ∈ l.take k, p y) (hp : p x) : ∀ y ∈ l.take (k + 1), p y := by
 intro y hy
 rw [List.take_succ_eq_append_getElem hk, hx] at hy
 rcases List.mem_append.1 hy with hy | hy
 ·exact h y hy
 ·simp at hy; subst hy; exact hp
theorem bnds_at {w : World} {a : Option Addr} {cap : Nat} {bs : List Bnd} (h : Bnds w (.slice a bs.length cap) bs) {k : Nat} (hk : k < bs.length) :
  ∃ b off, a = some ⟨b, off, none⟩ ∧ b < w.heap.size ∧ w.cell? ⟨b, off + k * 5, none⟩ = some (.int .i64 bs[k].op) ∧ w.cell? ⟨b, off + k * 5 + 1, none⟩ = some (.int .i64 bs[k].v.a) ∧ w.cell? ⟨b, off + k * 5 + 2, none⟩ = some (.int .i64 bs[k].v.b) ∧
   w.cell? ⟨b, off + k * 5 + 3, none⟩ = some (.int .i64 bs[k].v.c) ∧ w.cell? ⟨b, off + k * 5 + 4, none⟩ = some (.string bs[k].v.p) := by
 obtain ⟨h1, h2, ⟨a', cap', h3, h4, _⟩ | ⟨b, off, cap', h3, h4, h5, h6⟩⟩ := h
 ·omega
 ·injection h3 with h3 _ _
  have g : ∀ i, i < 5 → w.cell? ⟨b, off + k * 5 + i, none⟩ = (bs[k].cells)[i]? := fun i hi => by
   rw [Nat.add_assoc, h6 (k * 5 + i) (by omega), bnds_get bs k hk i hi]
  exact ⟨b, off, h3, h5, g 0 (by decide), g 1 (by decide), g 2 (by decide), g 3 (by decide), g 4 (by decide)⟩
end Go
namespace Go.Proofs.YtbgimpeklblcjaaGreatDoor
open Go.RowKit Go.Maps
set_option maxRecDepth 100000 in
set_option maxHeartbeats 4000000 in
theorem needs_any (nv : Value) (ns : List (Want × Value)) (w : World) (hn : Wants w nv ns) :
  Calls Tryz.prog 18 #[nv] w fun e w' => (∃ b, e = .returned (.bool b) ∧ (b = true → NeedsP ns)) ∧ w' = w := by
 obtain ⟨hmx, a0, cap0, rfl⟩ := hn.len
 have hmx2 : ns.length ≤ 9223372036854775807 := Nat.le_trans hmx (by decide)
 have HN := Lib.hid hn
 clear hn hmx
 by_cases h30 : 30 < ns.length
 ·have q0 : decide ((30 : Int) < (ns.length : Int)) = true := decide_eq_true (by omega)
  clear h30
  go_enter Tryz.func18, Tryz.ntmps18
  go_wp2_with fail
  go_ret
  exact ⟨⟨false, rfl, fun h => by cases h⟩, rfl⟩
 have q0 : decide ((30 : Int) < (ns.length : Int)) = false := decide_eq_false (by omega)
 go_enter Tryz.func18, Tryz.ntmps18
 go_wp2_with fail
 go_loopw [3] (fun i wr => NpRel ns w i wr) (fun i _ => ns.length - (intOf i).toNat)
 case atStart => exact ⟨0, Nat.zero_le _, rfl, by simp, rfl⟩
 case round =>
  obtain ⟨k, hk, rfl, hall, rfl⟩ := hrel
  have HA := Lib.hid hall
  clear hall
  by_cases hlt : k < ns.length
  ·have i0 : (0 : Int) ≤ (k : Int) := by omega
   have i1 : (k : Int) < (ns.length : Int) := by omega
   obtain ⟨bx, ox, rfl, hbx, c0, c1⟩ := HN.out.at' (Below.refl _ _) hlt
   have hrv := HN.out.2 _ (List.getElem_mem hlt)
   obtain ⟨⟨⟨xn, bs⟩, xv⟩, hxe⟩ : ∃ x, ns[k] = x := ⟨_, rfl⟩
   rw [hxe] at c0 c1 hrv
   obtain ⟨hb, ra, rcap, hrv⟩ := hrv
   simp only at c0 c1 hrv hb
   subst hrv
   have HX := Lib.hid hxe
   have HB := Lib.hid hb
   have hbl : bs.length ≤ 9223372036854775807 := Nat.le_trans hb.2.1 (by decide)
   have hsz : ((S xn).size : Int) = (xn.length : Int) := by rw [S_size]
   clear hxe hb
   by_cases h1 : 30 < bs.length
   ·have q1 : decide ((30 : Int) < (bs.length : Int)) = true := decide_eq_true (by omega)
    go_wp2_with fail
    go_ret
    exact ⟨⟨false, rfl, fun h => by cases h⟩, rfl⟩
   have q1 : decide ((30 : Int) < (bs.length : Int)) = false := decide_eq_false (by omega)
   by_cases h2 : 100 < xn.length
   ·have q2 : decide ((100 : Int) < ((S xn).size : Int)) = true := decide_eq_true (by rw [hsz]; omega)
    clear hsz
    go_wp2_with fail
    go_ret
    exact ⟨⟨false, rfl, fun h => by cases h⟩, rfl⟩
   have q2 : decide ((100 : Int) < ((S xn).size : Int)) = false := decide_eq_false (by rw [hsz]; omega)
   clear hsz
   have H12 := Lib.hid (⟨h1, h2⟩ : _ ∧ _)
   clear h1 h2
   go_wp2_with fail
   go_loopw [4] (fun i wy => BpRel bs wr i wy) (fun i _ => bs.length - (intOf i).toNat)
   case atStart => exact ⟨0, Nat.zero_le _, rfl, by simp, rfl⟩
   case round =>
    obtain ⟨j, hj, rfl, hal2, rfl⟩ := hrel
    have HA2 := Lib.hid hal2
    clear hal2
    by_cases hlt2 : j < bs.length
    ·have j0 : (0 : Int) ≤ (j : Int) := by omega
     have j1 : (j : Int) < (bs.length : Int) := by omega
     obtain ⟨bb, ob, hra, hbb, e0, e1, e2, e3, e4⟩ := bnds_at HB.out hlt2
     subst hra
     obtain ⟨y, hye⟩ : ∃ x, bs[j] = x := ⟨_, rfl⟩
     rw [hye] at e0 e1 e2 e3 e4
     have HY := Lib.hid hye
     clear hye
     by_cases h3 : 60 < y.v.p.size
     ·have q3 : decide ((60 : Int) < (y.v.p.size : Int)) = true := decide_eq_true (by omega)
      clear h3
      go_wp2_with fail
      go_ret
      exact ⟨⟨false, rfl, fun h => by cases h⟩, rfl⟩
     ·have q3 : decide ((60 : Int) < (y.v.p.size : Int)) = false := decide_eq_false (by omega)
      have H3 := Lib.hid h3
      clear h3
      go_wp2_with fail
      go_roundw
      case rel => exact ⟨j + 1, hlt2, by go_num, take_all hlt2 HY.out HA2.out (Nat.le_of_not_lt H3.out), rfl⟩
      case measure => simp [intOf]; omega
    ·have q4 : decide (j < bs.length) = false := decide_eq_false hlt2
     have hje := Lib.hid (Nat.le_of_not_lt hlt2)
     clear hlt2
     go_wp2_with fail
     go_roundw
     case rel =>
      refine ⟨k + 1, hlt, by go_num, take_all hlt HX.out HA.out ⟨Nat.le_of_not_lt H12.out.1, Nat.le_of_not_lt H12.out.2, ?_⟩, rfl⟩
      have h := HA2.out
      rw [List.take_of_length_le hje.out] at h
      exact h
     case measure => simp [intOf]; omega
  ·have q5 : decide (k < ns.length) = false := decide_eq_false hlt
   have hke := Lib.hid (Nat.le_of_not_lt hlt)
   have H30 := Lib.hid h30
   clear hlt h30
   go_wp2_with fail
   go_ret
   refine ⟨⟨true, rfl, fun _ => ⟨Nat.le_of_not_lt H30.out, ?_⟩⟩, rfl⟩
   have h := HA.out
   rw [List.take_of_length_le hke.out] at h
   exact h
def SzRel (ps : List DPack) (W : World) (x i : Value) (wr : World) : Prop :=
 ∃ k n : Nat, k ≤ ps.length ∧ i = .int .i64 (k : Int) ∧ x = .int .i64 (n : Int) ∧ n ≤ 230 ∧ (∀ p ∈ ps.take k, p.os.length ≤ 100 ∧ ∀ o ∈ p.os, OffP o) ∧ wr = W
def SzRel2 (os : List DOff) (W : World) (x i : Value) (wr : World) : Prop :=
 ∃ j n : Nat, j ≤ os.length ∧ i = .int .i64 (j : Int) ∧ x = .int .i64 (n : Int) ∧ n ≤ 230 ∧ 3 * j ≤ n ∧ (∀ o ∈ os.take j, OffP o) ∧ wr = W
def SzRel3 (lock : List Pik) (W : World) (i : Value) (wr : World) : Prop :=
 ∃ k : Nat, k ≤ lock.length ∧ i = .int .i64 (k : Int) ∧ (∀ x ∈ lock.take k, x.v.p.size ≤ 60) ∧ wr = W
def SmallPost (ps : List DPack) (lock : List Pik) (needs : List (Want × Value)) (w : World) (e : Ending) (w' : World) : Prop :=
 (∃ b, e = .returned (.bool b) ∧ (b = true → SmallP ps lock needs)) ∧ Below w.heap.size w w'
theorem small_no {ps : List DPack} {lock : List Pik} {needs : List (Want × Value)} {w w' : World} (hb : Below w.heap.size w w') : SmallPost ps lock needs w (.returned (.bool false)) w' := ⟨⟨false, rfl, fun h => by cases h⟩, hb⟩
theorem piks_at {w : World} {a : Option Addr} {cap : Nat} {bs : List Pik} (h : Piks w (.slice a bs.length cap) bs) {k : Nat} (hk : k < bs.length) :
  ∃ b off, a = some ⟨b, off, none⟩ ∧ b < w.heap.size ∧ w.cell? ⟨b, off + k * 5, none⟩ = some (.string bs[k].name) ∧ w.cell? ⟨b, off + k * 5 + 1, none⟩ = some (.int .i64 bs[k].v.a) ∧ w.cell? ⟨b, off + k * 5 + 2, none⟩ = some (.int .i64 bs[k].v.b) ∧
   w.cell? ⟨b, off + k * 5 + 3, none⟩ = some (.int .i64 bs[k].v.c) ∧ w.cell? ⟨b, off + k * 5 + 4, none⟩ = some (.string bs[k].v.p) := by
 obtain ⟨h1, h2, ⟨a', cap', h3, h4, _⟩ | ⟨b, off, cap', h3, h4, h5, h6⟩⟩ := h
 ·omega
 ·injection h3 with h3 _ _
  have g : ∀ i, i < 5 → w.cell? ⟨b, off + k * 5 + i, none⟩ = (bs[k].cells)[i]? := fun i hi => by
   rw [Nat.add_assoc, h6 (k * 5 + i) (by omega), piks_get bs k hk i hi]
  exact ⟨b, off, h3, h5, g 0 (by decide), g 1 (by decide), g 2 (by decide), g 3 (by decide), g 4 (by decide)⟩
set_option maxRecDepth 100000 in
set_option maxHeartbeats 8000000 in
theorem small_any (pk lk nv : Value) (ps : List DPack) (lock : List Pik) (needs : List (Want × Value)) (w : World) (hp : Packs w pk ps) (hl : Piks w lk lock) (hn : Wants w nv needs) :
  Calls Tryz.prog 8 #[.agg #[pk, lk, nv]] w (SmallPost ps lock needs w) := by
 obtain ⟨hmx, a0, cap0, rfl⟩ := hp.len
 obtain ⟨a1, cap1, rfl⟩ := hl.len
 obtain ⟨hmn, a2, cap2, rfl⟩ := hn.len
 have hmx2 : ps.length ≤ 9223372036854775807 := Nat.le_trans hmx (by decide)
 have hml2 : lock.length ≤ 9223372036854775807 := Nat.le_trans hl.2.1 (by decide)
 have hx1 := Below.refl (w.heap.size + 1) (w.alloc (.cells #[.slice a0 ps.length cap0, .slice a1 lock.length cap1, .slice a2 needs.length cap2] 26))
 have hW := below_first hx1
 have b0 := box_cells hx1 0
 have b1 := box_cells hx1 1
 have b2 := box_cells hx1 2
 simp only [List.getElem?_toArray, List.getElem?_cons_zero, List.getElem?_cons_succ] at b0 b1 b2
 have HP := Lib.hid (hp.below hW (Nat.le_refl _))
 have HL := Lib.hid (hl.below hW (Nat.le_refl _))
 have HN := Lib.hid (hn.below hW (Nat.le_refl _))
 have HW := Lib.hid hW
 clear hp hl hn hmx hmn hx1 hW
 by_cases h30 : 30 < ps.length
 ·have q0 : decide ((30 : Int) < (ps.length : Int)) = true := decide_eq_true (by omega)
  clear h30
  go_enter Tryz.func8, Tryz.ntmps8
  go_wp2_with fail
  go_ret
  exact small_no HW.out
 have q0 : decide ((30 : Int) < (ps.length : Int)) = false := decide_eq_false (by omega)
 by_cases h60 : 60 < lock.length
 ·have q1 : decide ((60 : Int) < (lock.length : Int)) = true := decide_eq_true (by omega)
  clear h30 h60
  go_enter Tryz.func8, Tryz.ntmps8
  go_wp2_with fail
  go_ret
  exact small_no HW.out
 have q1 : decide ((60 : Int) < (lock.length : Int)) = false := decide_eq_false (by omega)
 have H36 := Lib.hid (⟨Nat.le_of_not_lt h30, Nat.le_of_not_lt h60⟩ : _ ∧ _)
 clear h30 h60
 go_enter Tryz.func8, Tryz.ntmps8
 go_wp2_with fail
 generalize hbe : w.heap.size = bx at *
 generalize w.alloc (.cells #[.slice a0 ps.length cap0, .slice a1 lock.length cap1, .slice a2 needs.length cap2] 26) = W1 at *
 go_loopw [3, 4] (fun x i wr => SzRel ps W1 x i wr) (fun _ i _ => ps.length - (intOf i).toNat)
 case atStart => exact ⟨0, 0, Nat.zero_le _, rfl, rfl, by omega, by simp, rfl⟩
 case round =>
  obtain ⟨k, n, hk, rfl, rfl, hn2, hall, rfl⟩ := hrel
  have HA := Lib.hid hall
  clear hall
  by_cases hlt : k < ps.length
  ·have i0 : (0 : Int) ≤ (k : Int) := by omega
   have i1 : (k : Int) < (ps.length : Int) := by omega
   obtain ⟨bp, op, rfl, hbp, c0, c1⟩ := HP.out.at' (Below.refl _ _) hlt
   have hok := (HP.out.2 _ (List.getElem_mem hlt)).1
   obtain ⟨⟨pn, po, pa, pc⟩, hxe⟩ : ∃ x, ps[k] = x := ⟨_, rfl⟩
   rw [hxe] at c0 c1 hok
   simp only [DPack.ov] at c0 c1 hok
   have HX := Lib.hid hxe
   have HO := Lib.hid hok
   have hpl : po.length ≤ 9223372036854775807 := Nat.le_trans hok.1.2.1 (by decide)
   clear hxe hok
   go_wp2_with fail
   go_loopw [3, 5] (fun x i wy => SzRel2 po wr x i wy) (fun _ i _ => po.length - (intOf i).toNat)
   case atStart => exact ⟨0, n, Nat.zero_le _, rfl, rfl, hn2, by omega, by simp, rfl⟩
   case round =>
    obtain ⟨j, n2, hj, rfl, rfl, hn3, hj3, hal2, rfl⟩ := hrel
    have HA2 := Lib.hid hal2
    clear hal2
    by_cases hlt2 : j < po.length
    ·have j0 : (0 : Int) ≤ (j : Int) := by omega
     have j1 : (j : Int) < (po.length : Int) := by omega
     obtain ⟨bo, oo, rfl, hbo, e0, e1, e2, e3, e4, e5⟩ := HO.out.1.at' (Below.refl _ _) hlt2
     have hom := HO.out.2 _ (List.getElem_mem hlt2)
     obtain ⟨⟨ov, oy, ons, ona, onc⟩, hye⟩ : ∃ x, po[j] = x := ⟨_, rfl⟩
     rw [hye] at e0 e1 e2 e3 e4 e5 hom
     simp only [DOff.nv] at e5
     have HNd := Lib.hid (needs_any _ ons wr hom.1)
     have HY := Lib.hid hye
     have hnl : ons.length ≤ 9223372036854775807 := Nat.le_trans hom.1.len.1 (by decide)
     clear hye hom
     by_cases h2 : 200 < n2 + 3
     ·have q2 : decide ((200 : Int) < (n2 : Int) + 3) = true := decide_eq_true (by omega)
      clear h2
      go_wp2_with fail
      go_ret
      exact small_no (by rw [hbe]; exact HW.out)
     have q2 : decide ((200 : Int) < (n2 : Int) + 3) = false := decide_eq_false (by omega)
     go_wp2_with fail
     refine HNd.out.mono ?_
     rintro e w1 ⟨⟨b, rfl, hb⟩, rfl⟩
     cases b
     ·clear h2 hb
      go_wp2_with fail
      go_ret
      exact small_no (by rw [hbe]; exact HW.out)
     ·have HNp := Lib.hid (hb rfl)
      have hnl2 : ons.length ≤ 30 := HNp.out.1
      by_cases h3 : 60 < ov.p.size
      ·have q3 : decide ((60 : Int) < (ov.p.size : Int)) = true := decide_eq_true (by omega)
       clear h3 hb
       go_wp2_with fail
       go_ret
       exact small_no (by rw [hbe]; exact HW.out)
      ·have q3 : decide ((60 : Int) < (ov.p.size : Int)) = false := decide_eq_false (by omega)
       have H3 := Lib.hid h3
       clear h3 hb
       go_wp2_with fail
       go_roundw
       case rel => exact ⟨j + 1, n2 + 3 + ons.length, hlt2, by go_num, by go_num, by omega, by omega, take_all hlt2 HY.out HA2.out ⟨Nat.le_of_not_lt H3.out, HNp.out⟩, rfl⟩
       case measure => simp [intOf]; omega
    ·have q4 : decide (j < po.length) = false := decide_eq_false hlt2
     have hje := Lib.hid (Nat.le_of_not_lt hlt2)
     clear hlt2
     go_wp2_with fail
     go_roundw
     case rel =>
      refine ⟨k + 1, n2, hlt, by go_num, rfl, hn3, take_all hlt HX.out HA.out ⟨by have := hje.out; show po.length ≤ 100; omega, ?_⟩, rfl⟩
      have h := HA2.out
      rw [List.take_of_length_le hje.out] at h
      exact h
     case measure => simp [intOf]; omega
  ·have q5 : decide (k < ps.length) = false := decide_eq_false hlt
   have hke := Lib.hid (Nat.le_of_not_lt hlt)
   clear hlt
   go_wp2_with fail
   go_loopw [6] (fun i wy => SzRel3 lock wr i wy) (fun i _ => lock.length - (intOf i).toNat)
   case atStart => exact ⟨0, Nat.zero_le _, rfl, by simp, rfl⟩
   case round =>
    obtain ⟨j, hj, rfl, hal2, rfl⟩ := hrel
    have HA2 := Lib.hid hal2
    clear hal2
    by_cases hlt2 : j < lock.length
    ·have j0 : (0 : Int) ≤ (j : Int) := by omega
     have j1 : (j : Int) < (lock.length : Int) := by omega
     obtain ⟨bo, oo, rfl, hbo, e0, e1, e2, e3, e4⟩ := piks_at HL.out hlt2
     obtain ⟨y, hye⟩ : ∃ x, lock[j] = x := ⟨_, rfl⟩
     rw [hye] at e0 e1 e2 e3 e4
     have HY := Lib.hid hye
     clear hye
     by_cases h3 : 60 < y.v.p.size
     ·have q3 : decide ((60 : Int) < (y.v.p.size : Int)) = true := decide_eq_true (by omega)
      clear h3
      go_wp2_with fail
      go_ret
      exact small_no (by rw [hbe]; exact HW.out)
     ·have q3 : decide ((60 : Int) < (y.v.p.size : Int)) = false := decide_eq_false (by omega)
      have H3 := Lib.hid h3
      clear h3
      go_wp2_with fail
      go_roundw
      case rel => exact ⟨j + 1, hlt2, by go_num, take_all hlt2 HY.out HA2.out (Nat.le_of_not_lt H3.out), rfl⟩
      case measure => simp [intOf]; omega
    ·have q4 : decide (j < lock.length) = false := decide_eq_false hlt2
     have hje := Lib.hid (Nat.le_of_not_lt hlt2)
     have HNd := Lib.hid (needs_any _ needs wr HN.out)
     clear hlt2
     go_wp2_with fail
     refine HNd.out.mono ?_
     rintro e w1 ⟨⟨b, rfl, hb⟩, rfl⟩
     go_wp2_with fail
     go_ret
     refine ⟨⟨b, rfl, fun hbt => ?_⟩, by rw [hbe]; exact HW.out⟩
     have h1 := HA.out
     rw [List.take_of_length_le hke.out] at h1
     have h2 := HA2.out
     rw [List.take_of_length_le hje.out] at h2
     exact ⟨H36.out.1, H36.out.2, h1, h2, hb hbt⟩
end Go.Proofs.YtbgimpeklblcjaaGreatDoor

namespace Go
open Go.RowKit
theorem asked_at {nm : ByteArray} (ns : List (Want × Value)) (k : Nat) (hk : k < ns.length) (h : S ns[k].1.name = nm) : (ns.any fun x => decide (x.1.name = nm.data.toList)) = true := by
 refine List.any_eq_true.2 ⟨ns[k], List.getElem_mem hk, decide_eq_true ?_⟩
 rw [← h]; rfl
theorem asked_none {nm : ByteArray} (ns : List (Want × Value)) (h : ∀ j (hj : j < ns.length), S ns[j].1.name ≠ nm) : (ns.any fun x => decide (x.1.name = nm.data.toList)) = false := by
 rw [List.any_eq_false]
 intro x hx
 obtain ⟨j, hj, rfl⟩ := List.getElem_of_mem hx
 intro e
 have e := of_decide_eq_true e
 exact h j hj (by rw [e]; exact S_of nm)
/-! how many ways -/
def stepA (m n k : Nat) : Nat := if 0 < k ∧ m / k < n then m else n * max k 1
def satInv (m n P : Nat) : Prop := min n m = min P m ∧ (n ≤ m ∨ n = 1) ∧ 1 ≤ P
theorem stepA_ok {m n P k : Nat} (h : satInv m n P) : min (stepA m n k) m = min (P * max k 1) m := by
 obtain ⟨h1, h2, h3⟩ := h
 unfold stepA
 rcases Nat.eq_zero_or_pos k with rfl | hk
 ·rw [if_neg (fun h => Nat.lt_irrefl _ h.1)]
  have : max 0 1 = 1 := rfl
  rw [this, Nat.mul_one, Nat.mul_one]; exact (by omega)
 ·have hmk : max k 1 = k := by omega
  rw [hmk]
  have hPk : P ≤ P * k := Nat.le_mul_of_pos_right P hk
  by_cases hc : m / k < n
  ·rw [if_pos ⟨hk, hc⟩]
   have h5 : m < n * k := (Nat.div_lt_iff_lt_mul hk).1 hc
   have h6 : m ≤ P * k := by
    by_cases hPm : P < m
    ·have : n = P := by omega
     subst this; omega
    ·omega
   omega
  ·rw [if_neg (fun h => hc h.2)]
   have h5 : n * k ≤ m := (Nat.le_div_iff_mul_le hk).1 (Nat.le_of_not_lt hc)
   have h6 : n ≤ m := Nat.le_trans (Nat.le_mul_of_pos_right n hk) h5
   by_cases hP : P ≤ m
   ·have : n = P := by omega
    subst this; rfl
   ·have hn : n = m := by omega
    subst hn
    have h8 : n * k = n := by
     rcases Nat.eq_zero_or_pos n with h0 | h0
     ·rw [h0, Nat.zero_mul]
     ·have : n * k ≤ n * 1 := by omega
      have hk1 : k ≤ 1 := Nat.le_of_mul_le_mul_left this h0
      have : k = 1 := by omega
      rw [this, Nat.mul_one]
    rw [h8]; omega
theorem satInv.step {m n P k : Nat} (h : satInv m n P) : satInv m (min (P * max k 1) m) (P * max k 1) :=
 ⟨by omega, .inl (by omega), Nat.le_trans h.2.2 (Nat.le_mul_of_pos_right P (by omega))⟩
theorem satInv.start (m : Nat) : satInv m 1 1 := ⟨rfl, .inr rfl, Nat.le_refl _⟩
/-- how many ways there are for a package -/
def waysN (ns : List (Want × Value)) (p : DPack) : Nat := p.os.length + if (ns.any fun x => decide (x.1.name = p.name.data.toList)) = true then 0 else 1
def prodN (ks : List Nat) : Nat := ks.foldl (fun a x => a * max x 1) 1
/-- how many ways there are -/
def countN (ns : List (Want × Value)) (ts : List DPack) (most : Int) : Int :=
 if most < 0 ∨ (ts.any fun p => decide (waysN ns p = 0)) = true then 0 else ((min (prodN (ts.map (waysN ns))) most.toNat : Nat) : Int)
end Go
namespace Go.Proofs.YtbgimpeklblcjaaGreatDoor
open Go.RowKit Go.Maps
set_option maxRecDepth 100000 in
set_option maxHeartbeats 1000000 in
theorem cnt1_as (A : ByteArray) (ra : Option Addr) (rn rc : Nat) (b : Nat) (nm : ByteArray) (r : Bool) (hr : (A.toList == nm.toList) = r) (w : World) (hc : w.cell? ⟨b, 0, none⟩ = some (.string nm)) :
  Calls Tryz.prog 115 #[.agg #[.string A, .slice ra rn rc], .pointer (some ⟨b, 0, none⟩)] w fun e w' => e = .returned (.bool r) ∧ Below w.heap.size w w' := by
 have hW := (Below.refl w.heap.size w).alloc (Nat.le_refl _) (.cells #[.string A, .slice ra rn rc] 60)
 have hz := cell_lt hc
 have c1 := (hW.cell (p := ⟨b, 0, none⟩) hz).trans hc
 go_enter Tryz.func115, Tryz.ntmps115
 go_wp2_with fail
 go_ret
 exact ⟨rfl, hW⟩
def NxRel (ns : List (Want × Value)) (n : ByteArray) (w : World) (i : Value) (wr : World) : Prop :=
 ∃ k : Nat, k ≤ ns.length ∧ i = .int .i64 (k : Int) ∧ (∀ j (h : j < ns.length), j < k → S ns[j].1.name ≠ n) ∧ Below w.heap.size w wr
set_option maxRecDepth 100000 in
set_option maxHeartbeats 2000000 in
theorem needIx_any (v : Value) (ns : List (Want × Value)) (b : Nat) (nm : ByteArray) (w : World) (hv : Wants w v ns) (hc : w.cell? ⟨b, 0, none⟩ = some (.string nm)) :
  Calls Tryz.prog 114 #[v, .func (.func 115) #[] #[.pointer (some ⟨b, 0, none⟩)]] w fun e w' => ∃ r, e = .returned (.int .i64 r) ∧ decide (0 ≤ r) = askedB ns nm ∧ Below w.heap.size w w' := by
 obtain ⟨hmx, a0, cap0, rfl⟩ := hv.len
 have HV := Lib.hid hv
 have hmx2 : ns.length ≤ 9223372036854775807 := Nat.le_trans hmx (by decide)
 have HC := Lib.hid hc
 have hz := cell_lt hc
 clear hv hc hmx
 go_enter Tryz.func114, Tryz.ntmps114
 go_wp2_with fail
 go_loopw [8] (fun i wr => NxRel ns nm w i wr) (fun i _ => ns.length - (intOf i).toNat)
 case atStart => exact ⟨0, Nat.zero_le _, rfl, fun j h h' => by omega, Below.refl _ _⟩
 case round =>
  obtain ⟨k, hk, rfl, hall, hb⟩ := hrel
  have HA := Lib.hid hall
  clear hall
  by_cases hlt : k < ns.length
  ·have i0 : (0 : Int) ≤ (k : Int) := by omega
   have i1 : (k : Int) < (ns.length : Int) := by omega
   obtain ⟨bx, ox, rfl, hbx, c0, c1⟩ := HV.out.at' hb hlt
   have hrv := HV.out.2 _ (List.getElem_mem hlt)
   obtain ⟨⟨xw, xv⟩, hxe⟩ : ∃ x, ns[k] = x := ⟨_, rfl⟩
   rw [hxe] at c0 c1 hrv
   obtain ⟨_, ra, rcap, hrv⟩ := hrv
   simp only at c0 c1 hrv
   subst hrv
   have HX := Lib.hid hxe
   have cb := cell_on HC.out hb
   clear hxe
   by_cases he : S xw.name = nm
   ·have hr : ((S xw.name).toList == nm.toList) = true := by rw [he]; exact beq_self_eq_true _
    have HN : Hid (askedB ns nm = true) := asked_at ns k hlt (by rw [HX.out]; exact he)
    have HF := Lib.hid (cnt1_as (S xw.name) ra xw.bs.length rcap b nm true hr _ cb)
    clear he hr
    go_wp2_with fail
    refine HF.out.mono ?_
    rintro e w1 ⟨rfl, hb1⟩
    have hb2 := below_then hb hb1
    clear hb1
    go_wp2_with fail
    go_ret
    exact ⟨_, rfl, by rw [HN.out]; simp, hb2⟩
   ·have hr : ((S xw.name).toList == nm.toList) = false := by rw [beq_eq_false_iff_ne]; exact fun h => he (bytes_injC h)
    have HF := Lib.hid (cnt1_as (S xw.name) ra xw.bs.length rcap b nm false hr _ cb)
    have HNe := Lib.hid he
    clear he hr
    go_wp2_with fail
    refine HF.out.mono ?_
    rintro e w1 ⟨rfl, hb1⟩
    have hb2 := below_then hb hb1
    clear c0 c1 cb hb1
    go_wp2_with fail
    go_roundw
    case rel =>
     refine ⟨k + 1, hlt, by go_num, fun j h hj => ?_, hb2⟩
     by_cases hjk : j < k
     ·exact HA.out j h hjk
     ·have : j = k := by omega
      subst this
      rw [HX.out]; exact HNe.out
    case measure => simp [intOf]; omega
  ·have q5 : decide (k < ns.length) = false := decide_eq_false hlt
   have HN : Hid (askedB ns nm = false) := asked_none ns (fun j hj => HA.out j hj (by omega))
   clear hlt
   go_wp2_with fail
   go_ret
   exact ⟨_, rfl, by rw [HN.out]; rfl, hb⟩
set_option maxRecDepth 100000 in
set_option maxHeartbeats 1000000 in
theorem askedF_as (v : Value) (ns : List (Want × Value)) (b : Nat) (nm : ByteArray) (r : Bool) (hr : askedB ns nm = r) (w : World) (hv : Wants w v ns) (hc : w.cell? ⟨b, 0, none⟩ = some (.string nm)) :
  Calls Tryz.prog 80 #[v, .func (.func 115) #[] #[.pointer (some ⟨b, 0, none⟩)]] w fun e w' => e = .returned (.bool r) ∧ Below w.heap.size w w' := by
 have HC := Lib.hid (needIx_any v ns b nm w hv hc)
 obtain ⟨_, a0, cap0, rfl⟩ := hv.len
 have HR := Lib.hid hr
 clear hv hc hr
 go_enter Tryz.func80, Tryz.ntmps80
 go_wp2_with fail
 refine HC.out.mono ?_
 rintro e w1 ⟨r', rfl, hr', hb1⟩
 have HR' := Lib.hid hr'
 clear hr'
 go_wp2_with fail
 go_ret
 exact ⟨by rw [← HR.out, ← HR'.out]; rfl, hb1⟩
end Go.Proofs.YtbgimpeklblcjaaGreatDoor

namespace Go
open Go.RowKit
/-- one step of the program's number -/
def stepC (most : Int) (n k : Nat) : Nat := if 0 < k ∧ most.tdiv (k : Int) < (n : Int) then most.toNat else n * max k 1
def stepD (most : Int) (n k : Nat) : Nat := if most ≤ (stepC most n k : Int) then most.toNat else stepC most n k
theorem wrap_id {n : Int} (h0 : 0 ≤ n) (h : n ≤ 9223372036854775807) : wrap64 n = n := IntWalk.wrap64_in n ⟨by omega, h⟩
theorem wrap_mul {n K : Nat} (h : n * max K 1 ≤ 9223372036854775807) : wrap64 ((n : Int) * max (K : Int) 1) = ((n * max K 1 : Nat) : Int) := by
 have e : (n : Int) * max (K : Int) 1 = ((n * max K 1 : Nat) : Int) := by
  rw [Int.natCast_mul]; congr 1; omega
 rw [e]; exact wrap_id (by omega) (by omega)
theorem cnt_noover {most : Int} {n K : Nat} (hK : 0 < K) (h : ¬ most.tdiv (K : Int) < (n : Int)) : n * K ≤ most.toNat := by
 have h := Int.not_lt.1 h
 by_cases hm : 0 ≤ most
 ·obtain ⟨m, rfl⟩ := Int.eq_ofNat_of_zero_le hm
  rw [← Int.ofNat_tdiv] at h
  have h2 : n ≤ m / K := by exact_mod_cast h
  exact (Nat.le_div_iff_mul_le hK).1 h2
 ·have h2 : most.tdiv (K : Int) ≤ 0 := by
   have := Int.neg_tdiv most (K : Int)
   have h3 : 0 ≤ (-most).tdiv (K : Int) := Int.tdiv_nonneg (by omega) (by omega)
   omega
  have : n = 0 := by omega
  rw [this, Nat.zero_mul]; exact Nat.zero_le _
theorem stepC_nat (m n k : Nat) : stepC (m : Int) n k = stepA m n k := by
 unfold stepC stepA
 have h : (m : Int).tdiv (k : Int) < (n : Int) ↔ m / k < n := by rw [← Int.ofNat_tdiv]; omega
 by_cases hc : 0 < k ∧ m / k < n
 ·rw [if_pos hc, if_pos ⟨hc.1, h.2 hc.2⟩]; rfl
 ·rw [if_neg hc, if_neg (fun hh => hc ⟨hh.1, h.1 hh.2⟩)]
theorem stepD_nat (m n k : Nat) : stepD (m : Int) n k = min (stepA m n k) m := by
 unfold stepD; rw [stepC_nat]
 split
 ·rename_i h
  have : (m : Int).toNat = m := rfl
  rw [this]; omega
 ·omega
theorem fold_ok (m : Nat) (ks : List Nat) : satInv m (ks.foldl (stepD (m : Int)) 1) (prodN ks) := by
 induction ks using snoc_ind with
 | h0 => exact satInv.start m
 | h1 ks k ih =>
  rw [List.foldl_append]
  have e : prodN (ks ++ [k]) = prodN ks * max k 1 := by unfold prodN; rw [List.foldl_append]; rfl
  rw [e]
  show satInv m (stepD (m : Int) (ks.foldl (stepD (m : Int)) 1) k) _
  rw [stepD_nat, stepA_ok ih]
  exact ih.step
theorem count_end {ns : List (Want × Value)} {ts : List DPack} {most : Int} {n : Nat} (hn : n = (ts.map (waysN ns)).foldl (stepD most) 1) (hm : 0 ≤ most) (hb : (ts.any fun p => decide (waysN ns p = 0)) = false) : min (n : Int) most = countN ns ts most := by
 obtain ⟨m, rfl⟩ := Int.eq_ofNat_of_zero_le hm
 have h := (fold_ok m (ts.map (waysN ns))).1
 rw [← hn] at h
 unfold countN
 rw [if_neg (by rw [hb]; simp)]
 have e : (m : Int).toNat = m := rfl
 rw [e, ← h]; omega
theorem count_zero {ns : List (Want × Value)} {ts : List DPack} {most : Int} (h : most < 0 ∨ (ts.any fun p => decide (waysN ns p = 0)) = true) : countN ns ts most = 0 := by unfold countN; rw [if_pos h]
end Go
namespace Go.Proofs.YtbgimpeklblcjaaGreatDoor
open Go.RowKit Go.Maps
def CtRel (ns : List (Want × Value)) (ts : List DPack) (most : Int) (w : World) (x y i : Value) (wr : World) : Prop :=
 ∃ (k n : Nat) (b : Bool), k ≤ ts.length ∧ i = .int .i64 (k : Int) ∧ x = .int .i64 (n : Int) ∧ y = .bool b ∧ b = ((ts.take k).any fun p => decide (waysN ns p = 0)) ∧ n = (((ts.take k).map (waysN ns)).foldl (stepD most) 1) ∧ n ≤ 9223372036854775807 ∧ Below w.heap.size w wr
set_option maxRecDepth 100000 in
set_option maxHeartbeats 8000000 in
theorem count_any (pk nv : Value) (ts : List DPack) (ns : List (Want × Value)) (most : Int) (w : World) (hp : Packs w pk ts) (hn : Wants w nv ns) (h0 : -9223372036854775808 ≤ most) (h1 : most ≤ 9223372036854775807) (hos : ∀ p ∈ ts, p.os.length ≤ 1000000) :
  Calls Tryz.prog 82 #[pk, nv, .int .i64 most] w fun e w' => e = .returned (.int .i64 (countN ns ts most)) ∧ Below w.heap.size w w' := by
 obtain ⟨hmx, a0, cap0, rfl⟩ := hp.len
 obtain ⟨_, a2, cap2, rfl⟩ := hn.len
 have hmx2 : ts.length ≤ 9223372036854775807 := Nat.le_trans hmx (by decide)
 have HP := Lib.hid hp
 have HN := Lib.hid hn
 have HOs := Lib.hid hos
 clear hp hn hmx hos
 go_enter Tryz.func82, Tryz.ntmps82
 go_wp2_with fail
 go_loopw [7, 8, 14] (fun x y i wr => CtRel ns ts most w x y i wr) (fun _ _ i _ => ts.length - (intOf i).toNat)
 case atStart => exact ⟨0, 1, false, Nat.zero_le _, rfl, rfl, rfl, rfl, rfl, by omega, Below.refl _ _⟩
 case round =>
  obtain ⟨k, n, b, hk, rfl, rfl, rfl, hbb, hnn, hn9, hb⟩ := hrel
  have HBN := Lib.hid (⟨hbb, hnn, hn9⟩ : _ ∧ _ ∧ _)
  clear hbb hnn
  by_cases hlt : k < ts.length
  ·have i0 : (0 : Int) ≤ (k : Int) := by omega
   have i1 : (k : Int) < (ts.length : Int) := by omega
   obtain ⟨bp, op, rfl, hbp, c0, c1⟩ := HP.out.at' hb hlt
   have hol := HOs.out _ (List.getElem_mem hlt)
   obtain ⟨⟨pn, po, pa, pc⟩, hxe⟩ : ∃ x, ts[k] = x := ⟨_, rfl⟩
   rw [hxe] at c0 c1 hol
   simp only [DPack.ov] at c0 c1 hol
   have HX := Lib.hid hxe
   have hx1 := Below.refl (wr.heap.size + 1) (wr.alloc (.cells #[.string pn, .slice pa po.length pc] 52))
   have d0 := box_cells hx1 0
   simp only [List.getElem?_toArray, List.getElem?_cons_zero] at d0
   have hW := below_first hx1
   obtain ⟨ak, hak⟩ : ∃ b, askedB ns pn = b := ⟨_, rfl⟩
   have HAs := Lib.hid (askedF_as _ ns wr.heap.size pn ak hak _ (HN.out.below (below_then hb hW) (Nat.le_refl _)) d0)
   have HAk := Lib.hid hak
   have hb2 := below_then hb hW
   clear hxe hak hx1 hW hb d0
   go_wp2_with fail
   refine HAs.out.mono ?_
   rintro e w1 ⟨rfl, hb3⟩
   have hb4 := below_then hb2 hb3
   clear c0 c1 hb2 hb3
   obtain ⟨K, hK⟩ : ∃ K, waysN ns ⟨pn, po, pa, pc⟩ = K := ⟨_, rfl⟩
   have hK2 : K = po.length + if ak = true then 0 else 1 := by
    rw [← hK, ← HAk.out]; rfl
   have hKl : K ≤ 1000001 := by rw [hK2]; split <;> omega
   have HK := Lib.hid hK
   have HK2 := Lib.hid hK2
   clear hK hK2
   go_upto_if 24 with fail
   go_cut [11] (fun x wx => x = .int .i64 (K : Int) ∧ wx = w1)
   case first =>
    cases ak
    ·have h := HK2.out
     simp only [Bool.false_eq_true, if_false] at h
     subst h
     go_wp2_with fail
     go_meet
     case rel => exact ⟨by go_num, rfl⟩
    ·have h := HK2.out
     simp only [if_true, Nat.add_zero] at h
     subst h
     go_wp2_with fail
     go_meet
     case rel => exact ⟨rfl, rfl⟩
   case rest =>
    obtain ⟨rfl, rfl⟩ := hcut
    have HT := Lib.hid (List.take_succ_eq_append_getElem hlt)
    have hmz : decide (most ≤ max most 0) = true := decide_eq_true (by omega)
    rcases Nat.eq_zero_or_pos K with hz | hz
    ·have HZ : Hid ((K = 0) = True) := by show _ = _; simp [hz]
     have qz : ((K : Int) == 0) = true := by rw [hz]; rfl
     have qp : decide (0 < K) = false := decide_eq_false (by omega)
     have hw : wrap64 ((n : Int) * max (K : Int) 1) = (n : Int) := by rw [hz]; have : max ((0 : Nat) : Int) 1 = 1 := rfl; rw [this, Int.mul_one]; exact wrap_id (by omega) (by omega)
     have hc : stepC most n K = n := by unfold stepC; rw [hz, if_neg (by simp)]; simp
     clear hz
     by_cases hd : most ≤ (n : Int)
     ·have qd : decide (most ≤ (n : Int)) = true := decide_eq_true hd
      have HSt : Hid (stepD most n K = most.toNat) := by show _ = _; unfold stepD; rw [hc, if_pos hd]
      have HSb : Hid (most.toNat ≤ 9223372036854775807) := by show _ ≤ _; omega
      clear hd hc
      cases b
      ·go_wp2_with fail
       go_roundw
       case rel =>
        refine ⟨k + 1, most.toNat, true, hlt, by go_num, by first | rfl | (congr 1; done) | (congr 1; omega), rfl, ?_, ?_, ?_, hb4⟩
        ·rw [HT.out, List.any_append, ← HBN.out.1]; simp [HX.out, HK.out, HZ.out]
        ·rw [HT.out, List.map_append, List.foldl_append, ← HBN.out.2.1, HX.out]; show _ = stepD most n (waysN ns ⟨pn, po, pa, pc⟩); rw [HK.out]; exact HSt.out.symm
        ·have h := HSb.out; omega
       case measure => simp [intOf]; omega
      ·go_wp2_with fail
       go_roundw
       case rel =>
        refine ⟨k + 1, most.toNat, true, hlt, by go_num, by first | rfl | (congr 1; done) | (congr 1; omega), rfl, ?_, ?_, ?_, hb4⟩
        ·rw [HT.out, List.any_append, ← HBN.out.1]; simp [HX.out, HK.out, HZ.out]
        ·rw [HT.out, List.map_append, List.foldl_append, ← HBN.out.2.1, HX.out]; show _ = stepD most n (waysN ns ⟨pn, po, pa, pc⟩); rw [HK.out]; exact HSt.out.symm
        ·have h := HSb.out; omega
       case measure => simp [intOf]; omega
     ·have qd : decide (most ≤ (n : Int)) = false := decide_eq_false hd
      have HSt : Hid (stepD most n K = n) := by show _ = _; unfold stepD; rw [hc, if_neg hd]
      have HSb : Hid (n ≤ 9223372036854775807) := hn9
      clear hd hc
      cases b
      ·go_wp2_with fail
       go_roundw
       case rel =>
        refine ⟨k + 1, n, true, hlt, by go_num, by first | rfl | (congr 1; done) | (congr 1; omega), rfl, ?_, ?_, ?_, hb4⟩
        ·rw [HT.out, List.any_append, ← HBN.out.1]; simp [HX.out, HK.out, HZ.out]
        ·rw [HT.out, List.map_append, List.foldl_append, ← HBN.out.2.1, HX.out]; show _ = stepD most n (waysN ns ⟨pn, po, pa, pc⟩); rw [HK.out]; exact HSt.out.symm
        ·have h := HSb.out; omega
       case measure => simp [intOf]; omega
      ·go_wp2_with fail
       go_roundw
       case rel =>
        refine ⟨k + 1, n, true, hlt, by go_num, by first | rfl | (congr 1; done) | (congr 1; omega), rfl, ?_, ?_, ?_, hb4⟩
        ·rw [HT.out, List.any_append, ← HBN.out.1]; simp [HX.out, HK.out, HZ.out]
        ·rw [HT.out, List.map_append, List.foldl_append, ← HBN.out.2.1, HX.out]; show _ = stepD most n (waysN ns ⟨pn, po, pa, pc⟩); rw [HK.out]; exact HSt.out.symm
        ·have h := HSb.out; omega
       case measure => simp [intOf]; omega
    ·have HZ : Hid ((K = 0) = False) := by show _ = _; simp; omega
     have qz : ((K : Int) == 0) = false := by rw [beq_eq_false_iff_ne]; omega
     have qp : decide (0 < K) = true := decide_eq_true (by omega)
     have hk0 : ¬ K = 0 := by omega
     by_cases hq : most.tdiv (K : Int) < (n : Int)
     ·have qq : decide (most.tdiv (K : Int) < (n : Int)) = true := decide_eq_true hq
      have HSt : Hid (stepD most n K = most.toNat) := by
       show _ = _
       have hc : stepC most n K = most.toNat := by unfold stepC; rw [if_pos ⟨hz, hq⟩]
       unfold stepD; rw [hc]; split <;> rfl
      have HSb : Hid (most.toNat ≤ 9223372036854775807) := by show _ ≤ _; omega
      clear hz hq
      cases b
      ·go_wp2_with fail
       go_roundw
       case rel =>
        refine ⟨k + 1, most.toNat, false, hlt, by go_num, by first | rfl | (congr 1; done) | (congr 1; omega), rfl, ?_, ?_, ?_, hb4⟩
        ·rw [HT.out, List.any_append, ← HBN.out.1]; simp [HX.out, HK.out, HZ.out]
        ·rw [HT.out, List.map_append, List.foldl_append, ← HBN.out.2.1, HX.out]; show _ = stepD most n (waysN ns ⟨pn, po, pa, pc⟩); rw [HK.out]; exact HSt.out.symm
        ·have h := HSb.out; omega
       case measure => simp [intOf]; omega
      ·go_wp2_with fail
       go_roundw
       case rel =>
        refine ⟨k + 1, most.toNat, true, hlt, by go_num, by first | rfl | (congr 1; done) | (congr 1; omega), rfl, ?_, ?_, ?_, hb4⟩
        ·rw [HT.out, List.any_append, ← HBN.out.1]; simp [HX.out, HK.out, HZ.out]
        ·rw [HT.out, List.map_append, List.foldl_append, ← HBN.out.2.1, HX.out]; show _ = stepD most n (waysN ns ⟨pn, po, pa, pc⟩); rw [HK.out]; exact HSt.out.symm
        ·have h := HSb.out; omega
       case measure => simp [intOf]; omega
     ·have qq : decide (most.tdiv (K : Int) < (n : Int)) = false := decide_eq_false hq
      have hno := cnt_noover hz hq
      obtain ⟨A, hA⟩ : ∃ A, n * max K 1 = A := ⟨_, rfl⟩
      have hA2 : A ≤ most.toNat := by rw [← hA, show max K 1 = K by omega]; exact hno
      have hw : wrap64 ((n : Int) * max (K : Int) 1) = (A : Int) := by rw [← hA]; exact wrap_mul (by rw [hA]; omega)
      have hc : stepC most n K = A := by unfold stepC; rw [if_neg (fun h => hq h.2), hA]
      clear hz hq hno
      by_cases hd : most ≤ (A : Int)
      ·have qd : decide (most ≤ (A : Int)) = true := decide_eq_true hd
       have HSt : Hid (stepD most n K = most.toNat) := by show _ = _; unfold stepD; rw [hc, if_pos hd]
       have HSb : Hid (most.toNat ≤ 9223372036854775807) := by show _ ≤ _; omega
       clear hd hc hA hA2
       cases b
       ·go_wp2_with fail
        go_roundw
        case rel =>
         refine ⟨k + 1, most.toNat, false, hlt, by go_num, by first | rfl | (congr 1; done) | (congr 1; omega), rfl, ?_, ?_, ?_, hb4⟩
         ·rw [HT.out, List.any_append, ← HBN.out.1]; simp [HX.out, HK.out, HZ.out]
         ·rw [HT.out, List.map_append, List.foldl_append, ← HBN.out.2.1, HX.out]; show _ = stepD most n (waysN ns ⟨pn, po, pa, pc⟩); rw [HK.out]; exact HSt.out.symm
         ·have h := HSb.out; omega
        case measure => simp [intOf]; omega
       ·go_wp2_with fail
        go_roundw
        case rel =>
         refine ⟨k + 1, most.toNat, true, hlt, by go_num, by first | rfl | (congr 1; done) | (congr 1; omega), rfl, ?_, ?_, ?_, hb4⟩
         ·rw [HT.out, List.any_append, ← HBN.out.1]; simp [HX.out, HK.out, HZ.out]
         ·rw [HT.out, List.map_append, List.foldl_append, ← HBN.out.2.1, HX.out]; show _ = stepD most n (waysN ns ⟨pn, po, pa, pc⟩); rw [HK.out]; exact HSt.out.symm
         ·have h := HSb.out; omega
        case measure => simp [intOf]; omega
      ·have qd : decide (most ≤ (A : Int)) = false := decide_eq_false hd
       have HSt : Hid (stepD most n K = A) := by show _ = _; unfold stepD; rw [hc, if_neg hd]
       have HSb : Hid (A ≤ 9223372036854775807) := by show _ ≤ _; omega
       clear hd hc hA hA2
       cases b
       ·go_wp2_with fail
        go_roundw
        case rel =>
         refine ⟨k + 1, A, false, hlt, by go_num, by first | rfl | (congr 1; done) | (congr 1; omega), rfl, ?_, ?_, ?_, hb4⟩
         ·rw [HT.out, List.any_append, ← HBN.out.1]; simp [HX.out, HK.out, HZ.out]
         ·rw [HT.out, List.map_append, List.foldl_append, ← HBN.out.2.1, HX.out]; show _ = stepD most n (waysN ns ⟨pn, po, pa, pc⟩); rw [HK.out]; exact HSt.out.symm
         ·have h := HSb.out; omega
        case measure => simp [intOf]; omega
       ·go_wp2_with fail
        go_roundw
        case rel =>
         refine ⟨k + 1, A, true, hlt, by go_num, by first | rfl | (congr 1; done) | (congr 1; omega), rfl, ?_, ?_, ?_, hb4⟩
         ·rw [HT.out, List.any_append, ← HBN.out.1]; simp [HX.out, HK.out, HZ.out]
         ·rw [HT.out, List.map_append, List.foldl_append, ← HBN.out.2.1, HX.out]; show _ = stepD most n (waysN ns ⟨pn, po, pa, pc⟩); rw [HK.out]; exact HSt.out.symm
         ·have h := HSb.out; omega
        case measure => simp [intOf]; omega
  ·have q5 : decide (k < ts.length) = false := decide_eq_false hlt
   have hke := Nat.le_of_not_lt hlt
   have HE : Hid (b = (ts.any fun p => decide (waysN ns p = 0)) ∧ n = (ts.map (waysN ns)).foldl (stepD most) 1) := by
    have h1 := HBN.out.1
    have h2 := HBN.out.2.1
    rw [List.take_of_length_le hke] at h1 h2
    exact ⟨h1, h2⟩
   clear hlt hke
   cases b
   ·by_cases hm : most < 0
    ·have q6 : decide (most < 0) = true := decide_eq_true hm
     have HF : Hid (countN ns ts most = 0) := count_zero (.inl hm)
     clear hm
     go_wp2_with fail
     go_ret
     exact ⟨by rw [HF.out]; rfl, hb⟩
    ·have q6 : decide (most < 0) = false := decide_eq_false hm
     have HF : Hid (min (n : Int) most = countN ns ts most) := count_end HE.out.2 (by omega) HE.out.1.symm
     clear hm
     go_wp2_with fail
     go_ret
     exact ⟨by rw [HF.out]; rfl, hb⟩
   ·have HF : Hid (countN ns ts most = 0) := count_zero (.inr HE.out.1.symm)
    go_wp2_with fail
    go_ret
    exact ⟨by rw [HF.out]; rfl, hb⟩
end Go.Proofs.YtbgimpeklblcjaaGreatDoor
