/- Choices: what is locked, and the order of offers: walks. Choices: is a version there, and the order of two offers: walks. Choices: what the sort gives, plainly. The reference of choices: locked, choice, ahead: walks. Choices: Offers: the walk. The reference of choices: choice: a walk. -/
import Derived.Test.YtbgimpeklblcjaaGreatDoorCmdMore
import Derived.Test.YtbgimpeklblcjaaGreatDoorStab6
import Derived.Test.YtbgimpeklblcjaaGreatDoorSeA
import Derived.Test.YtbgimpeklblcjaaGreatDoorSeB
import Derived.Test.YtbgimpeklblcjaaGreatDoorSeC
import Derived.Test.YtbgimpeklblcjaaGreatDoorRanRef3
import Derived.Laws.EntriesVeiled
namespace Go
theorem bytes_injC {p q : ByteArray} (h : p.toList = q.toList) : p = q := by
 rw [Lib.toList_data, Lib.toList_data] at h
 exact ByteArray.ext (Array.toList_inj.1 h)
end Go
namespace Go.Proofs.YtbgimpeklblcjaaGreatDoor
open Go.RowKit
set_option maxRecDepth 100000 in
theorem pickC_eq (o : ByteArray) (a b c : Int) (p : ByteArray) (o' : ByteArray) (a' b' c' : Int) (p' : ByteArray) (r : Bool) (hr : decide (o' = o ∧ a' = a ∧ b' = b ∧ c' = c ∧ p' = p) = r) (W : World) :
  (Op.equalIn 10000 43 (.agg #[.string o, .int .i64 a, .int .i64 b, .int .i64 c, .string p]) (.agg #[.string o', .int .i64 a', .int .i64 b', .int .i64 c', .string p'])).run Tryz.prog W = .ok r W := by
 subst hr
 go_simp
 by_cases h0 : o.toList = o'.toList
 ·have h00 := bytes_injC h0
  subst h00
  by_cases h1 : a = a'
  ·by_cases h2 : b = b'
   ·by_cases h3 : c = c'
    ·by_cases h4 : p.toList = p'.toList
     ·have h5 := bytes_injC h4
      subst h5
      simp [h1, h2, h3]
     ·have h5 : p' ≠ p := fun e => h4 (by rw [e])
      simp [h1, h2, h3, h4, h5]
    ·have h3' : c' ≠ c := fun e => h3 e.symm
     simp [h1, h2, h3, h3']
   ·have h2' : b' ≠ b := fun e => h2 e.symm
    simp [h1, h2, h2']
  ·have h1' : a' ≠ a := fun e => h1 e.symm
   simp [h1, h1']
 ·have h00 : o' ≠ o := fun e => h0 (by rw [e])
  simp [h0, h00]
def PiRel (ps : List Pik) (nm : ByteArray) (v : V4) (w : World) (i : Value) (wr : World) : Prop :=
 ∃ k : Nat, k ≤ ps.length ∧ i = .int .i64 (k : Int) ∧ (ps.take k).any (lockB nm v) = false ∧ Below (w.heap.size + 1) (w.alloc (.cells #[.string nm, .int .i64 v.a, .int .i64 v.b, .int .i64 v.c, .string v.p] 43)) wr
set_option maxRecDepth 100000 in
set_option maxHeartbeats 2000000 in
theorem pickIx_any (v : Value) (ps : List Pik) (nm : ByteArray) (x : V4) (w : World) (hv : Piks w v ps) :
  Calls Tryz.prog 161 #[v, .agg #[.string nm, .int .i64 x.a, .int .i64 x.b, .int .i64 x.c, .string x.p]] w fun e w' => ∃ r : Int, e = .returned (.int .i64 r) ∧ decide (0 ≤ r) = lockedB ps nm x ∧ Below w.heap.size w w' := by
 obtain ⟨a0, cap0, rfl⟩ := hv.len
 have HV := Lib.hid hv
 have hmx : ps.length ≤ 9223372036854775807 := Nat.le_trans hv.cases.1 (by decide)
 clear hv
 go_enter Tryz.func161, Tryz.ntmps161
 go_wp2_with fail
 go_loopw [8] (fun i wr => PiRel ps nm x w i wr) (fun i _ => ps.length - (intOf i).toNat)
 case atStart => exact ⟨0, Nat.zero_le _, rfl, rfl, Below.refl _ _⟩
 case round =>
  obtain ⟨k, hk, rfl, hall, hb⟩ := hrel
  have HA := Lib.hid hall
  have hW := below_first hb
  clear hall
  by_cases hlt : k < ps.length
  ·have i0 : (0 : Int) ≤ (k : Int) := by omega
   have i1 : (k : Int) < (ps.length : Int) := by omega
   obtain ⟨bx, ox, rfl, hbx, hcp⟩ := HV.out.row hW hlt
   obtain ⟨c0, c1, c2, c3, c4⟩ := hcp k hlt
   have HT := Lib.hid (List.take_succ_eq_append_getElem hlt)
   have HM := Lib.hid (List.getElem_mem hlt)
   obtain ⟨⟨o, ⟨a, b, c, p⟩⟩, hxe⟩ : ∃ x, ps[k] = x := ⟨_, rfl⟩
   rw [hxe] at c0 c1 c2 c3 c4 HT HM
   have d0 := box_cells hb 0
   have d1 := box_cells hb 1
   have d2 := box_cells hb 2
   have d3 := box_cells hb 3
   have d4 := box_cells hb 4
   simp at d0 d1 d2 d3 d4
   have hz := cell_lt d0
   clear hcp hxe
   obtain ⟨r, hr⟩ : ∃ r, lockB nm x ⟨o, ⟨a, b, c, p⟩⟩ = r := ⟨_, rfl⟩
   have r1 := fun W => pickC_eq nm x.a x.b x.c x.p o a b c p r hr W
   have HR := Lib.hid hr
   clear hr
   cases r
   ·go_wp2_with fail
    go_quiet (fail)
    go_wp2_with fail
    go_roundw
    case rel =>
     refine ⟨k + 1, hlt, by go_num, ?_, below_drewN hb _⟩
     rw [HT.out, List.any_append, HA.out]; simp [HR.out]
    case measure => simp [intOf]; omega
   ·have HN : Hid (lockedB ps nm x = true) := List.any_eq_true.2 ⟨_, HM.out, HR.out⟩
    go_wp2_with fail
    go_quiet (fail)
    go_wp2_with fail
    go_ret
    exact ⟨_, rfl, by rw [HN.out]; exact decide_eq_true i0, below_drewN hW _⟩
  ·have q5 : decide (k < ps.length) = false := decide_eq_false hlt
   have HN : Hid (lockedB ps nm x = false) := by
    have := HA.out
    rw [List.take_of_length_le (by omega)] at this
    exact this
   clear hlt
   go_wp2_with fail
   go_ret
   exact ⟨_, rfl, by rw [HN.out]; rfl, hW⟩
set_option maxRecDepth 100000 in
set_option maxHeartbeats 2000000 in
theorem pickIn_any (v : Value) (ps : List Pik) (nm : ByteArray) (x : V4) (w : World) (hv : Piks w v ps) :
  Calls Tryz.prog 134 #[v, .agg #[.string nm, .int .i64 x.a, .int .i64 x.b, .int .i64 x.c, .string x.p]] w fun e w' => e = .returned (.bool (lockedB ps nm x)) ∧ Below w.heap.size w w' := by
 obtain ⟨a0, cap0, rfl⟩ := hv.len
 have hx := Below.refl (w.heap.size + 1) (w.alloc (.cells #[.string nm, .int .i64 x.a, .int .i64 x.b, .int .i64 x.c, .string x.p] 43))
 have HC := Lib.hid (fun W (h : Below w.heap.size w W) => pickIx_any _ ps nm x W (hv.below h (Nat.le_refl _)))
 have hW := below_first hx
 clear hv hx
 go_enter Tryz.func134, Tryz.ntmps134
 go_wp2_with fail
 refine (HC.out _ hW).mono ?_
 rintro e w1 ⟨r, rfl, hr, hb1⟩
 have hb2 := below_then hW hb1
 have HR := Lib.hid hr
 clear hr hb1
 go_wp2_with fail
 go_ret
 exact ⟨by rw [← HR.out]; rfl, hb2⟩
set_option maxRecDepth 100000 in
set_option maxHeartbeats 2000000 in
theorem locked1_any (v : V4) (lk : Value) (lock : List Pik) (nm : ByteArray) (bl bp : Nat) (w : World) (hv : Piks w lk lock) (hl : w.cell? ⟨bl, 0, none⟩ = some lk) (hp : w.cell? ⟨bp, 0, none⟩ = some (.string nm)) :
  Calls Tryz.prog 133 #[.agg #[.int .i64 v.a, .int .i64 v.b, .int .i64 v.c, .string v.p], .pointer (some ⟨bl, 0, none⟩), .pointer (some ⟨bp, 0, none⟩)] w fun e w' => e = .returned (.bool (lockedB lock nm v)) ∧ Below w.heap.size w w' := by
 obtain ⟨a0, cap0, rfl⟩ := hv.len
 have hx := Below.refl (w.heap.size + 1) (w.alloc (.cells #[.int .i64 v.a, .int .i64 v.b, .int .i64 v.c, .string v.p] 41))
 have HC := Lib.hid (fun W (h : Below w.heap.size w W) => pickIn_any _ lock nm v W (hv.below h (Nat.le_refl _)))
 have hW := below_first hx
 have z1 := cell_lt hl
 have z2 := cell_lt hp
 have c1 := cell_on hl hW
 have c2 := cell_on hp hW
 clear hv hx
 go_enter Tryz.func133, Tryz.ntmps133
 go_wp2_with fail
 refine (HC.out _ hW).mono ?_
 rintro e w1 ⟨rfl, hb1⟩
 have hb2 := below_then hW hb1
 clear hb1
 go_wp2_with fail
 go_ret
 exact ⟨rfl, hb2⟩
end Go.Proofs.YtbgimpeklblcjaaGreatDoor

namespace Go
open Go.RowKit
/-- how an offer lies in six cells -/
def dsix : Six DOff := ⟨fun o => .int .i64 o.v.a, fun o => .int .i64 o.v.b, fun o => .int .i64 o.v.c, fun o => .string o.v.p, fun o => .bool o.y, fun o => o.nv⟩
theorem box_ver {w w1 : World} {x0 x1 x2 x3 x4 x5 : Value} {T : TypeId} (h : Below (w.heap.size + 1) (w.alloc (.cells #[x0, x1, x2, x3, x4, x5] T)) w1) :
  w1.cell? ⟨w.heap.size, 0, none⟩ = some x0 ∧ w1.cell? ⟨w.heap.size, 1, none⟩ = some x1 ∧ w1.cell? ⟨w.heap.size, 2, none⟩ = some x2 ∧ w1.cell? ⟨w.heap.size, 3, none⟩ = some x3 :=
 ⟨box_cells h 0, box_cells h 1, box_cells h 2, box_cells h 3⟩
/-- a version lies in a block -/
def VerAt (w : World) (b : Nat) (v : V4) : Prop := w.cell? ⟨b, 0, none⟩ = some (.int .i64 v.a) ∧ w.cell? ⟨b, 1, none⟩ = some (.int .i64 v.b) ∧ w.cell? ⟨b, 2, none⟩ = some (.int .i64 v.c) ∧ w.cell? ⟨b, 3, none⟩ = some (.string v.p)
theorem VerAt.on {w w' : World} {b : Nat} {v : V4} (h : VerAt w b v) (hb : Below w.heap.size w w') : VerAt w' b v := ⟨cell_on h.1 hb, cell_on h.2.1 hb, cell_on h.2.2.1 hb, cell_on h.2.2.2 hb⟩
theorem VerAt.drew {w : World} {b : Nat} {v : V4} (h : VerAt w b v) : VerAt w.drew b v := h.on (Below.refl _ _).drew
/-- what a region of the order looks at: two versions in blocks, a function in its variable -/
def OrdS (b : Nat) (x y : V4) (bf : Nat) (fv : Value) (w0 W : World) : Prop := VerAt W b x ∧ VerAt W (b + 1) y ∧ W.cell? ⟨bf, 0, none⟩ = some fv ∧ Below w0.heap.size w0 W
theorem OrdS.on {b : Nat} {x y : V4} {bf : Nat} {fv : Value} {w0 : World} : ∀ W W', OrdS b x y bf fv w0 W → Below W.heap.size W W' → OrdS b x y bf fv w0 W' := fun _ _ ⟨h0, h1, h2, h3⟩ hb => ⟨h0.on hb, h1.on hb, cell_on h2 hb, below_then h3 hb⟩
end Go
namespace Go.Proofs.YtbgimpeklblcjaaGreatDoor
open Go.RowKit
set_option maxRecDepth 100000 in
set_option maxHeartbeats 1000000 in
theorem same1_as (x : DOff) (y : V4) (bo : Nat) (r : Bool) (hr : V4.same x.v y = r) (w : World) (hc : VerAt w bo y) :
  Calls Tryz.prog 136 #[.agg #[.int .i64 x.v.a, .int .i64 x.v.b, .int .i64 x.v.c, .string x.v.p, .bool x.y, x.nv], .pointer (some ⟨bo, 0, none⟩)] w fun e w' => e = .returned (.bool r) ∧ Below w.heap.size w w' := by
 have hW := below_first (Below.refl (w.heap.size + 1) (w.alloc (.cells #[.int .i64 x.v.a, .int .i64 x.v.b, .int .i64 x.v.c, .string x.v.p, .bool x.y, x.nv] 55)))
 have r1 := fun W => ver_eq x.v.a x.v.b x.v.c x.v.p y.a y.b y.c y.p r hr.symm W
 have hz := cell_lt hc.1
 obtain ⟨c0, c1, c2, c3⟩ := hc.on hW
 clear hc hr
 go_enter Tryz.func136, Tryz.ntmps136
 go_wp2_with fail
 go_ret
 exact ⟨rfl, hW⟩
def OiRel (os : List DOff) (v : V4) (w : World) (i : Value) (wr : World) : Prop :=
 ∃ k : Nat, k ≤ os.length ∧ i = .int .i64 (k : Int) ∧ (os.take k).any (fun x => V4.same x.v v) = false ∧ Below w.heap.size w wr
set_option maxRecDepth 100000 in
set_option maxHeartbeats 2000000 in
theorem offIx_any (v : Value) (os : List DOff) (o : DOff) (bo : Nat) (w : World) (hv : ORow w v os) (hc : VerAt w bo o.v) :
  Calls Tryz.prog 162 #[v, .func (.func 136) #[] #[.pointer (some ⟨bo, 0, none⟩)]] w fun e w' => ∃ r : Int, e = .returned (.int .i64 r) ∧ decide (0 ≤ r) = thereB os o ∧ Below w.heap.size w w' := by
 obtain ⟨a0, cap0, rfl⟩ := hv.len.2
 have HV := Lib.hid hv
 have hmx : os.length ≤ 9223372036854775807 := Nat.le_trans hv.len.1 (by decide)
 have HC := Lib.hid hc
 clear hv hc
 go_enter Tryz.func162, Tryz.ntmps162
 go_wp2_with fail
 go_loopw [8] (fun i wr => OiRel os o.v w i wr) (fun i _ => os.length - (intOf i).toNat)
 case atStart => exact ⟨0, Nat.zero_le _, rfl, rfl, Below.refl _ _⟩
 case round =>
  obtain ⟨k, hk, rfl, hall, hb⟩ := hrel
  have HA := Lib.hid hall
  clear hall
  by_cases hlt : k < os.length
  ·have i0 : (0 : Int) ≤ (k : Int) := by omega
   have i1 : (k : Int) < (os.length : Int) := by omega
   obtain ⟨bx, ox, rfl, hbx, c0, c1, c2, c3, c4, c5⟩ := HV.out.at' hb hlt
   have HT := Lib.hid (List.take_succ_eq_append_getElem hlt)
   have HM := Lib.hid (List.getElem_mem hlt)
   obtain ⟨x, hxe⟩ : ∃ x, os[k] = x := ⟨_, rfl⟩
   rw [hxe] at c0 c1 c2 c3 c4 c5 HT HM
   clear hxe
   obtain ⟨r, hr⟩ : ∃ r, V4.same x.v o.v = r := ⟨_, rfl⟩
   have HF := Lib.hid (same1_as x o.v bo r hr _ (HC.out.on hb))
   have HR := Lib.hid hr
   clear hr
   cases r
   ·go_wp2_with fail
    refine HF.out.mono ?_
    rintro e w1 ⟨rfl, hb1⟩
    have hb2 := below_then hb hb1
    clear c0 c1 c2 c3 c4 c5 hb1
    go_wp2_with fail
    go_roundw
    case rel =>
     refine ⟨k + 1, hlt, by go_num, ?_, hb2⟩
     rw [HT.out, List.any_append, HA.out]; simp [HR.out]
    case measure => simp [intOf]; omega
   ·have HN : Hid (thereB os o = true) := List.any_eq_true.2 ⟨_, HM.out, HR.out⟩
    go_wp2_with fail
    refine HF.out.mono ?_
    rintro e w1 ⟨rfl, hb1⟩
    have hb2 := below_then hb hb1
    clear c0 c1 c2 c3 c4 c5 hb1
    go_wp2_with fail
    go_ret
    exact ⟨_, rfl, by rw [HN.out]; exact decide_eq_true i0, hb2⟩
  ·have q5 : decide (k < os.length) = false := decide_eq_false hlt
   have HN : Hid (thereB os o = false) := by
    have := HA.out
    rw [List.take_of_length_le (by omega)] at this
    exact this
   clear hlt
   go_wp2_with fail
   go_ret
   exact ⟨_, rfl, by rw [HN.out]; rfl, hb⟩
set_option maxRecDepth 100000 in
set_option maxHeartbeats 2000000 in
theorem offIn_as (v : Value) (os : List DOff) (o : DOff) (bo : Nat) (r : Bool) (hr : thereB os o = r) (w : World) (hv : ORow w v os) (hc : VerAt w bo o.v) :
  Calls Tryz.prog 135 #[v, .func (.func 136) #[] #[.pointer (some ⟨bo, 0, none⟩)]] w fun e w' => e = .returned (.bool r) ∧ Below w.heap.size w w' := by
 have HC := Lib.hid (offIx_any v os o bo w hv hc)
 obtain ⟨a0, cap0, rfl⟩ := hv.len.2
 have HR := Lib.hid hr
 clear hv hc hr
 go_enter Tryz.func135, Tryz.ntmps135
 go_wp2_with fail
 refine HC.out.mono ?_
 rintro e w1 ⟨r', rfl, hr', hb1⟩
 have HR' := Lib.hid hr'
 clear hr'
 go_wp2_with fail
 go_ret
 exact ⟨by rw [← HR.out, ← HR'.out]; rfl, hb1⟩
/-- what the order of two offers looks at -/
structure LockedAt (w : World) (lk : Value) (lock : List Pik) (nm : ByteArray) (bl bp bf : Nat) : Prop where
 row : Piks w lk lock
 lk : w.cell? ⟨bl, 0, none⟩ = some lk
 nm : w.cell? ⟨bp, 0, none⟩ = some (.string nm)
 fn : w.cell? ⟨bf, 0, none⟩ = some (.func (.func 133) #[] #[.pointer (some ⟨bl, 0, none⟩), .pointer (some ⟨bp, 0, none⟩)])
 env : Env w
theorem LockedAt.on {w w' : World} {lk : Value} {lock : List Pik} {nm : ByteArray} {bl bp bf : Nat} (h : LockedAt w lk lock nm bl bp bf) (hb : Below w.heap.size w w') : LockedAt w' lk lock nm bl bp bf :=
 ⟨h.row.below hb (Nat.le_refl _), cell_on h.lk hb, cell_on h.nm hb, cell_on h.fn hb, h.env.below hb⟩
theorem lockedC_as {lk : Value} {lock : List Pik} {nm : ByteArray} {bl bp bf : Nat} (v : V4) (r : Bool) (hr : lockedB lock nm v = r) {w : World} (h : LockedAt w lk lock nm bl bp bf) :
  Calls Tryz.prog 133 #[.agg #[.int .i64 v.a, .int .i64 v.b, .int .i64 v.c, .string v.p], .pointer (some ⟨bl, 0, none⟩), .pointer (some ⟨bp, 0, none⟩)] w fun e w' => e = .returned (.bool r) ∧ Below w.heap.size w w' := by
 subst hr; exact locked1_any v lk lock nm bl bp w h.row h.lk h.nm
set_option maxRecDepth 100000 in
set_option maxHeartbeats 4000000 in
theorem cmp1_any {lk : Value} {lock : List Pik} {nm : ByteArray} {bl bp bf : Nat} (x y : DOff) (w : World) (h : LockedAt w lk lock nm bl bp bf) (hx : x.v.p.size ≤ 300) (hy : y.v.p.size ≤ 300) :
  Calls Tryz.prog 138 #[.agg #[.int .i64 x.v.a, .int .i64 x.v.b, .int .i64 x.v.c, .string x.v.p, .bool x.y, x.nv], .agg #[.int .i64 y.v.a, .int .i64 y.v.b, .int .i64 y.v.c, .string y.v.p, .bool y.y, y.nv], .pointer (some ⟨bf, 0, none⟩)] w fun e w' => e = .returned (.int .i64 (cmpO lock nm x y)) ∧ Below w.heap.size w w' := by
 have hx1 := Below.refl (w.heap.size + 1) (w.alloc (.cells #[.int .i64 x.v.a, .int .i64 x.v.b, .int .i64 x.v.c, .string x.v.p, .bool x.y, x.nv] 55))
 have hx2 := hx1.alloc (by simp) (.cells #[.int .i64 y.v.a, .int .i64 y.v.b, .int .i64 y.v.c, .string y.v.p, .bool y.y, y.nv] 55)
 have hW := below_first hx2
 obtain ⟨c0, c1, c2, c3⟩ := box_ver hx2
 have hsz : (w.alloc (.cells #[.int .i64 x.v.a, .int .i64 x.v.b, .int .i64 x.v.c, .string x.v.p, .bool x.y, x.nv] 55)).heap.size = w.heap.size + 1 := by simp
 have hy1 := Below.refl ((w.alloc (.cells #[.int .i64 x.v.a, .int .i64 x.v.b, .int .i64 x.v.c, .string x.v.p, .bool x.y, x.nv] 55)).heap.size + 1) ((w.alloc (.cells #[.int .i64 x.v.a, .int .i64 x.v.b, .int .i64 x.v.c, .string x.v.p, .bool x.y, x.nv] 55)).alloc (.cells #[.int .i64 y.v.a, .int .i64 y.v.b, .int .i64 y.v.c, .string y.v.p, .bool y.y, y.nv] 55))
 obtain ⟨d0, d1, d2, d3⟩ := box_ver hy1
 rw [hsz] at d0 d1 d2 d3
 have hL := h.on hW
 obtain ⟨p, hp⟩ : ∃ p, lockedB lock nm x.v = p := ⟨_, rfl⟩
 obtain ⟨q, hq⟩ : ∃ q, lockedB lock nm y.v = q := ⟨_, rfl⟩
 have HV : Hid (cmpO lock nm x y = or2 (if p = q then 0 else if p = true then -1 else 1) (V4.cmp y.v x.v)) := by
  show _ = _
  unfold cmpO lockN; rw [hp, hq]
 clear hx1 hx2 hy1 hsz
 go_enter Tryz.func138, Tryz.ntmps138
 go_wp2_with fail
 generalize ((w.alloc (.cells #[.int .i64 x.v.a, .int .i64 x.v.b, .int .i64 x.v.c, .string x.v.p, .bool x.y, x.nv] 55)).alloc (.cells #[.int .i64 y.v.a, .int .i64 y.v.b, .int .i64 y.v.c, .string y.v.p, .bool y.y, y.nv] 55)) = W0 at *
 have hLd : LockedAt W0.drew lk lock nm bl bp bf := hL.on (Below.refl _ _).drew
 have HX : Hid (∀ W, Below W0.drew.heap.size W0.drew W → Calls Tryz.prog 133 #[.agg #[.int .i64 x.v.a, .int .i64 x.v.b, .int .i64 x.v.c, .string x.v.p], .pointer (some ⟨bl, 0, none⟩), .pointer (some ⟨bp, 0, none⟩)] W fun e w' => e = .returned (.bool p) ∧ Below W.heap.size W w') := fun W hb => lockedC_as x.v p hp (hLd.on hb)
 have HY : Hid (∀ W, Below W0.drew.heap.size W0.drew W → Calls Tryz.prog 133 #[.agg #[.int .i64 y.v.a, .int .i64 y.v.b, .int .i64 y.v.c, .string y.v.p], .pointer (some ⟨bl, 0, none⟩), .pointer (some ⟨bp, 0, none⟩)] W fun e w' => e = .returned (.bool q) ∧ Below W.heap.size W w') := fun W hb => lockedC_as y.v q hq (hLd.on hb)
 have hst : OrdS w.heap.size x.v y.v bf (.func (.func 133) #[] #[.pointer (some ⟨bl, 0, none⟩), .pointer (some ⟨bp, 0, none⟩)]) W0.drew W0.drew :=
  ⟨VerAt.drew ⟨c0, c1, c2, c3⟩, VerAt.drew ⟨d0, d1, d2, d3⟩, hLd.fn, Below.refl _ _⟩
 have HW := Lib.hid (hW.drew)
 have HE := Lib.hid hLd.env
 clear hL hLd hp hq c0 c1 c2 c3 d0 d1 d2 d3 hW h
 refine wp_region_held_drew (S := (fun W => OrdS w.heap.size x.v y.v bf (.func (.func 133) #[] #[.pointer (some ⟨bl, 0, none⟩), .pointer (some ⟨bp, 0, none⟩)]) W0.drew W)) (by kernel_rfl) (hst) (fun hHeld => ?_)
 refine wpAnyH_take (i := 0) (v := ?_) rfl (by kernel_rfl) (by kernel_rfl) (by kernel_rfl) (fun _ _ _ h => h) (Or.inl ⟨by kernel_rfl, ?_⟩) hHeld ?_
 rotate_left
 ·(rintro W ⟨⟨e0, e1, e2, e3⟩, ⟨f0, f1, f2, f3⟩, e4, _⟩; go_simp; (try with_reducible rfl))
 (try simp only [Act.put, putL])
 refine wpAnyH_take (i := 1) (v := ?_) rfl (by kernel_rfl) (by kernel_rfl) (by kernel_rfl) (fun _ _ _ h => h) (Or.inl ⟨by kernel_rfl, ?_⟩) hHeld ?_
 rotate_left
 ·(rintro W ⟨⟨e0, e1, e2, e3⟩, ⟨f0, f1, f2, f3⟩, e4, _⟩; go_simp; (try with_reducible rfl))
 (try simp only [Act.put, putL])
 refine wpAnyH_take (i := 2) (v := ?_) rfl (by kernel_rfl) (by kernel_rfl) (by kernel_rfl) (fun _ _ _ h => h) (Or.inl ⟨by kernel_rfl, ?_⟩) hHeld ?_
 rotate_left
 ·(rintro W ⟨⟨e0, e1, e2, e3⟩, ⟨f0, f1, f2, f3⟩, e4, _⟩; go_simp; (try with_reducible rfl))
 (try simp only [Act.put, putL])
 refine wpAnyH_take (i := 4) (v := ?_) rfl (by kernel_rfl) (by kernel_rfl) (by kernel_rfl) (fun _ _ _ h => h) (Or.inl ⟨by kernel_rfl, ?_⟩) hHeld ?_
 rotate_left
 ·(rintro W ⟨⟨e0, e1, e2, e3⟩, ⟨f0, f1, f2, f3⟩, e4, _⟩; go_simp; (try with_reducible rfl))
 (try simp only [Act.put, putL])
 refine wpAnyH_take (i := 5) (v := ?_) rfl (by kernel_rfl) (by kernel_rfl) (by kernel_rfl) (fun _ _ _ h => h) (Or.inl ⟨by kernel_rfl, ?_⟩) hHeld ?_
 rotate_left
 ·(rintro W ⟨⟨e0, e1, e2, e3⟩, ⟨f0, f1, f2, f3⟩, e4, _⟩; go_simp; (try with_reducible rfl))
 (try simp only [Act.put, putL])
 refine wpAnyH_take (i := 6) (v := ?_) rfl (by kernel_rfl) (by kernel_rfl) (by kernel_rfl) (fun _ _ _ h => h) (Or.inl ⟨by kernel_rfl, ?_⟩) hHeld ?_
 rotate_left
 ·(rintro W ⟨⟨e0, e1, e2, e3⟩, ⟨f0, f1, f2, f3⟩, e4, _⟩; go_simp; (try with_reducible rfl))
 (try simp only [Act.put, putL])
 refine wpAnyH_ready (rs := [3]) (by kernel_rfl) (by simp) ?_
 refine AllReadyH.cons rfl (fun K hK => ?_) AllReadyH.nil
 go_simp
 refine (keepS OrdS.on hHeld (HX.out _ hHeld.2.2.2)).mono ?_
 rintro e w1 ⟨rfl, hk1⟩
 refine hK.out _ _ (hk1) (fun hHeld => ?_)
 clear hK K
 (try simp only [Act.put, putL])
 refine wpAnyH_ready (rs := [7]) (by kernel_rfl) (by simp) ?_
 refine AllReadyH.cons rfl (fun K hK => ?_) AllReadyH.nil
 go_simp
 refine (keepS OrdS.on hHeld (HY.out _ hHeld.2.2.2)).mono ?_
 rintro e w2 ⟨rfl, hk2⟩
 refine hK.out _ _ (hk2) (fun hHeld => ?_)
 clear hK K
 (try simp only [Act.put, putL])
 refine wpAnyH_take (i := 8) (v := ?_) rfl (by kernel_rfl) (by kernel_rfl) (by kernel_rfl) (fun _ _ _ h => h) (Or.inl ⟨by kernel_rfl, ?_⟩) hHeld ?_
 rotate_left
 ·(rintro W ⟨⟨e0, e1, e2, e3⟩, ⟨f0, f1, f2, f3⟩, e4, _⟩; go_simp; (try with_reducible rfl))
 (try simp only [Act.put, putL])
 refine wpAnyH_take (i := 9) (v := ?_) rfl (by kernel_rfl) (by kernel_rfl) (by kernel_rfl) (fun _ _ _ h => h) (Or.inl ⟨by kernel_rfl, ?_⟩) hHeld ?_
 rotate_left
 ·(rintro W ⟨⟨e0, e1, e2, e3⟩, ⟨f0, f1, f2, f3⟩, e4, _⟩; go_simp; (try with_reducible rfl))
 (try simp only [Act.put, putL])
 refine wpAnyH_done (by kernel_rfl) ?_ _
 obtain ⟨⟨c0, c1, c2, c3⟩, ⟨d0, d1, d2, d3⟩, _, hb2⟩ := hHeld
 have HE2 := Lib.hid (HE.out.below hb2)
 have hb3 := below_then HW.out hb2
 clear hst hb2 hk1 hk2
 cases p <;> cases q
 case false.true =>
  have HF : Hid (cmpO lock nm x y = 1) := by show _ = _; rw [HV.out]; rfl
  go_wp2_with fail
  go_ret
  exact ⟨by rw [HF.out]; rfl, hb3⟩
 case true.false =>
  have HF : Hid (cmpO lock nm x y = -1) := by show _ = _; rw [HV.out]; rfl
  go_wp2_with fail
  go_ret
  exact ⟨by rw [HF.out]; rfl, hb3⟩
 all_goals
  have HF : Hid (cmpO lock nm x y = cmpV y.v.a y.v.b y.v.c y.v.p.data.toList x.v.a x.v.b x.v.c x.v.p.data.toList) := by show _ = _; rw [HV.out]; rfl
  go_wp2_with fail
  refine (cmpP_any _ _ _ _ _ _ _ _ _ HE2.out hy hx).mono ?_
  rintro e w3 ⟨rfl, hb4⟩
  have hb5 := below_then hb3 hb4
  clear hb4
  go_wp2_with fail
  go_ret
  exact ⟨by rw [HF.out]; rfl, hb5⟩
end Go.Proofs.YtbgimpeklblcjaaGreatDoor

namespace Go
open Go.RowKit
theorem nodup_sub : ∀ (l m : List Nat), l.Nodup → (∀ x ∈ l, x ∈ m) → l.length ≤ m.length
 | [], _, _, _ => Nat.zero_le _
 | x :: l, m, h, hs => by
  obtain ⟨h1, h2⟩ := List.nodup_cons.1 h
  have hx := hs x List.mem_cons_self
  have := nodup_sub l (m.erase x) h2 (fun y hy => (List.mem_erase_of_ne (fun e => by subst e; exact h1 hy)).2 (hs y (List.mem_cons_of_mem _ hy)))
  rw [List.length_erase_of_mem hx] at this
  have h3 : 0 < m.length := List.length_pos_of_mem hx
  simp only [List.length_cons]
  omega
/-- one to one into itself: onto -/
theorem onto_below {σ : Nat → Nat} {n : Nat} (h1 : ∀ i, i < n → σ i < n) (h2 : ∀ i j, σ i = σ j → i = j) : ∀ y, y < n → ∃ x, x < n ∧ σ x = y := by
 intro y hy
 refine Classical.byContradiction fun hn => ?_
 have hl : ((List.range n).map σ).Nodup := by
  refine List.pairwise_map.2 (List.Pairwise.imp ?_ (List.nodup_range (n := n)))
  intro a b hab e
  exact hab (h2 _ _ e)
 have hy' : y ∉ (List.range n).map σ := by
  intro hm
  obtain ⟨x, hx, e⟩ := List.mem_map.1 hm
  exact hn ⟨x, List.mem_range.1 hx, e⟩
 have := nodup_sub (y :: (List.range n).map σ) (List.range n) (List.nodup_cons.2 ⟨hy', hl⟩) (fun x hx => by
  rcases List.mem_cons.1 hx with e | hx
  ·subst e; exact List.mem_range.2 hy
  ·obtain ⟨z, hz, e⟩ := List.mem_map.1 hx
   subst e; exact List.mem_range.2 (h1 _ (List.mem_range.1 hz)))
 simp at this
 omega
theorem sel_sub {lock : List Pik} {nm : ByteArray} {needs : List (Want × Value)} : ∀ (os out : List DOff) (o : DOff), o ∈ os.foldl (selStep lock nm needs) out → o ∈ out ∨ o ∈ os
 | [], _, _, h => .inl h
 | x :: os, out, o, h => by
  rw [List.foldl_cons] at h
  rcases sel_sub os _ o h with h | h
  ·unfold selStep at h
   split at h
   ·rcases List.mem_append.1 h with h | h
    ·exact .inl h
    ·simp at h; subst h; exact .inr List.mem_cons_self
   ·exact .inl h
  ·exact .inr (List.mem_cons_of_mem _ h)
theorem sel_mem {lock : List Pik} {nm : ByteArray} {needs : List (Want × Value)} {os : List DOff} {o : DOff} (h : o ∈ selL lock nm needs os) : o ∈ os := by
 rcases sel_sub os [] o h with h | h
 ·cases h
 ·exact h
theorem dsix_one (o : DOff) : ∀ v ∈ dsix.list o, v.oneCell' = true := by
 intro v hv
 simp [Six.list, dsix] at hv
 rcases hv with rfl | rfl | rfl | rfl | rfl | rfl <;> rfl
/-- an offer of nothing -/
def DOff.none : DOff := ⟨V4.zero, false, [], Option.none, 0⟩
def seqOf (out : List DOff) (i : Nat) : DOff × Nat := (out.getD i DOff.none, i)
theorem seq_get (out : List DOff) {i : Nat} (h : i < out.length) : (seqOf out i).1 = out[i] := by
 unfold seqOf; simp [List.getD, h]
theorem seq_map (out : List DOff) : (List.range out.length).map (fun i => (seqOf out i).1) = out := by
 refine List.ext_getElem (by simp) (fun i h1 h2 => ?_)
 rw [List.getElem_map, List.getElem_range]
 exact seq_get out h2
theorem flat6_map (n : Nat) (k : Nat → DOff × Nat) : flat6 dsix n k = ((List.range n).map fun i => (k i).1).flatMap DOff.cells := by
 unfold flat6; rw [List.flatMap_map]; rfl
theorem flat6_seq (out : List DOff) : flat6 dsix out.length (seqOf out) = out.flatMap DOff.cells := by rw [flat6_map, seq_map]
theorem sorted_choice {lock : List Pik} {nm : ByteArray} {needs : List (Want × Value)} {os : List DOff} {k : Nat → DOff × Nat} {n : Nat} (hn : (selL lock nm needs os).length = n)
  (hp : Stab.Perm 0 n (seqOf (selL lock nm needs os)) k) (hs : Stab.Srt (cmpO lock nm) 0 n k) :
  ∃ out, ChoiceIs lock nm needs os out ∧ out.length = n ∧ flat6 dsix n k = out.flatMap DOff.cells := by
 obtain ⟨h1, h2⟩ := sel_ok (lock := lock) (nm := nm) (needs := needs) (os := os)
 generalize hse : selL lock nm needs os = sel at *
 obtain ⟨σ, s1, s2, s3, s4⟩ := hp
 have hk : ∀ i, i < n → ∃ h : σ i < sel.length, (k i).1 = sel[σ i] := fun i hi => by
  have := (s2 i (Nat.zero_le _) hi).2
  exact ⟨by omega, by rw [s4]; exact seq_get sel (by omega)⟩
 have hne : ∀ i j (hi : i < sel.length) (hj : j < sel.length), i ≠ j → sel[i].v ≠ sel[j].v := fun i j hi hj hij => by
  rcases Nat.lt_or_gt_of_ne hij with h | h
  ·exact List.pairwise_iff_getElem.1 h2 i j hi hj h
  ·exact fun e => List.pairwise_iff_getElem.1 h2 j i hj hi h e.symm
 refine ⟨(List.range n).map fun i => (k i).1, ⟨?_, ?_⟩, by simp, flat6_map n k⟩
 ·have e : (List.range n).map (fun i => (k i).1) = ((List.range n).map σ).map (fun i => (seqOf sel i).1) := by
   rw [List.map_map]
   refine List.map_congr_left fun i _ => ?_
   show (k i).1 = (seqOf sel (σ i)).1
   rw [s4]
  have e2 := seq_map sel
  rw [e, hse]
  conv => rhs; rw [← e2]
  refine List.Perm.map _ ?_
  have hl : ((List.range n).map σ).Nodup := by
   refine List.pairwise_map.2 (List.Pairwise.imp ?_ (List.nodup_range (n := n)))
   intro a b hab e
   exact hab (s3 _ _ e)
  rw [hn]
  refine (List.perm_ext_iff_of_nodup hl List.nodup_range).2 fun y => ⟨fun hy => ?_, fun hy => ?_⟩
  ·obtain ⟨x, hx, e⟩ := List.mem_map.1 hy
   subst e
   exact List.mem_range.2 (s2 _ (Nat.zero_le _) (List.mem_range.1 hx)).2
  ·obtain ⟨x, hx, e⟩ := onto_below (σ := σ) (n := n) (fun i hi => (s2 i (Nat.zero_le _) hi).2) s3 y (List.mem_range.1 hy)
   exact List.mem_map.2 ⟨x, List.mem_range.2 hx, e⟩
 ·refine List.pairwise_map.2 ?_
  refine List.pairwise_iff_getElem.2 fun i j hi hj hij => ?_
  simp only [List.length_range] at hi hj
  simp only [List.getElem_range]
  rcases hs i j (Nat.zero_le _) hij hj with h | ⟨h, _⟩
  ·exact h
  ·obtain ⟨ai, ei⟩ := hk i hi
   obtain ⟨aj, ej⟩ := hk j hj
   rw [ei, ej] at h
   exact absurd h (cmpO_ne (fit_ok (h1 _ (List.getElem_mem ai))) (fit_ok (h1 _ (List.getElem_mem aj))) (hne _ _ ai aj (fun e => by have := s3 _ _ e; omega)))
theorem wcells_get (xs : List (Want × Value)) : ∀ (j : Nat) (h : j < xs.length) (i : Nat), i < 2 → (xs.flatMap WCells)[j * 2 + i]? = (WCells xs[j])[i]? := by
 induction xs with
 | nil => intro j h; cases h
 | cons o os ih =>
  intro j h i hi
  rw [List.flatMap_cons]
  cases j with
  | zero =>
   have : i < (WCells o).length := hi
   rw [Nat.zero_mul, Nat.zero_add, List.getElem?_append_left this]; rfl
  | succ j =>
   have hl : (WCells o).length = 2 := rfl
   rw [List.getElem?_append_right (by rw [hl]; omega), hl, show (j + 1) * 2 + i - 2 = j * 2 + i by omega, ih j (by simpa using h) i hi]
   rfl
theorem Wants.len {w : World} {v : Value} {xs : List (Want × Value)} (h : Wants w v xs) : xs.length ≤ maxLen ∧ ∃ a cap, v = .slice a xs.length cap := by
 obtain ⟨⟨_, h2, ⟨a, cap, h3, h4, _⟩ | ⟨b, off, cap, h3, _⟩⟩, _⟩ := h
 ·exact ⟨h2, a, cap, by rw [h3, h4]⟩
 ·exact ⟨h2, _, cap, h3⟩
theorem Wants.at' {w w' : World} {a : Option Addr} {cap : Nat} {xs : List (Want × Value)} (h : Wants w (.slice a xs.length cap) xs) (hb : Below w.heap.size w w') {k : Nat} (hk : k < xs.length) :
  ∃ b off, a = some ⟨b, off, none⟩ ∧ b < w.heap.size ∧ w'.cell? ⟨b, off + k * 2, none⟩ = some (.string (S xs[k].1.name)) ∧ w'.cell? ⟨b, off + k * 2 + 1, none⟩ = some xs[k].2 := by
 obtain ⟨⟨h1, h2, ⟨a', cap', h3, h4, _⟩ | ⟨b, off, cap', h3, h4, h5, h6⟩⟩, _⟩ := h
 ·omega
 ·injection h3 with h3 _ _
  have g : ∀ i, i < 2 → w'.cell? ⟨b, off + k * 2 + i, none⟩ = (WCells xs[k])[i]? := fun i hi => by
   rw [hb.cell (p := ⟨b, off + k * 2 + i, none⟩) h5, Nat.add_assoc, h6 (k * 2 + i) (by omega), wcells_get xs k hk i hi]
  exact ⟨b, off, h3, h5, g 0 (by decide), g 1 (by decide)⟩
end Go

namespace Go.Proofs.YtbgimpeklblcjaaGreatDoor
open Go.RowKit
def RlRel (ps : List Pik) (nm : ByteArray) (v : V4) (w : World) (i : Value) (wr : World) : Prop :=
 ∃ k : Nat, k ≤ ps.length ∧ i = .int .i64 (k : Int) ∧ (ps.take k).any (lockB nm v) = false ∧ Below (w.heap.size + 1) (w.alloc (.cells #[.int .i64 v.a, .int .i64 v.b, .int .i64 v.c, .string v.p] 41)) wr
set_option maxRecDepth 100000 in
set_option maxHeartbeats 2000000 in
theorem rlocked_as (v : Value) (ps : List Pik) (nm : ByteArray) (x : V4) (q : Bool) (hq : lockedB ps nm x = q) (w : World) (hv : Piks w v ps) :
  Calls Tryz.prog 87 #[v, .string nm, .agg #[.int .i64 x.a, .int .i64 x.b, .int .i64 x.c, .string x.p]] w fun e w' => e = .returned (.bool q) ∧ Below w.heap.size w w' := by
 obtain ⟨a0, cap0, rfl⟩ := hv.len
 have HV := Lib.hid hv
 have HQ := Lib.hid hq
 have hmx : ps.length ≤ 9223372036854775807 := Nat.le_trans hv.cases.1 (by decide)
 clear hv hq
 go_enter Tryz.func87, Tryz.ntmps87
 go_wp2_with fail
 go_loopw [7] (fun i wr => RlRel ps nm x w i wr) (fun i _ => ps.length - (intOf i).toNat)
 case atStart => exact ⟨0, Nat.zero_le _, rfl, rfl, Below.refl _ _⟩
 case round =>
  obtain ⟨k, hk, rfl, hall, hb⟩ := hrel
  have HA := Lib.hid hall
  have hW := below_first hb
  clear hall
  by_cases hlt : k < ps.length
  ·have i0 : (0 : Int) ≤ (k : Int) := by omega
   have i1 : (k : Int) < (ps.length : Int) := by omega
   obtain ⟨bx, ox, rfl, hbx, hcp⟩ := HV.out.row hW hlt
   obtain ⟨c0, c1, c2, c3, c4⟩ := hcp k hlt
   have HT := Lib.hid (List.take_succ_eq_append_getElem hlt)
   have HM := Lib.hid (List.getElem_mem hlt)
   obtain ⟨⟨o, ⟨a, b, c, p⟩⟩, hxe⟩ : ∃ x, ps[k] = x := ⟨_, rfl⟩
   rw [hxe] at c0 c1 c2 c3 c4 HT HM
   have d0 := box_cells hb 0
   have d1 := box_cells hb 1
   have d2 := box_cells hb 2
   have d3 := box_cells hb 3
   simp at d0 d1 d2 d3
   have hz := cell_lt d0
   clear hcp hxe
   by_cases hn : o = nm
   ·subst hn
    have e1 : (o.toList == o.toList) = true := beq_self_eq_true _
    obtain ⟨r, hr⟩ : ∃ r, lockB o x ⟨o, ⟨a, b, c, p⟩⟩ = r := ⟨_, rfl⟩
    have r1 := fun W => ver_eq a b c p x.a x.b x.c x.p r (by rw [← hr]; unfold lockB; simp) W
    have HR := Lib.hid hr
    clear hr
    cases r
    ·go_wp2_with fail
     go_quiet (fail)
     go_wp2_with fail
     go_roundw
     case rel =>
      refine ⟨k + 1, hlt, by go_num, ?_, below_drewN hb _⟩
      rw [HT.out, List.any_append, HA.out]; simp [HR.out]
     case measure => simp [intOf]; omega
    ·have HN : Hid (q = true) := by
      show _ = _
      rw [← HQ.out]; exact List.any_eq_true.2 ⟨_, HM.out, HR.out⟩
     go_wp2_with fail
     go_quiet (fail)
     go_wp2_with fail
     go_ret
     exact ⟨by rw [HN.out]; rfl, below_drewN hW _⟩
   ·have e1 : (o.toList == nm.toList) = false := by
     rw [beq_eq_false_iff_ne]; exact fun h => hn (bytes_injC h)
    have hp : ¬ o.toList = nm.toList := fun h => hn (bytes_injC h)
    have HR : Hid (lockB nm x ⟨o, ⟨a, b, c, p⟩⟩ = false) := by
     show _ = _
     unfold lockB; simp [hn]
    clear hn
    go_wp2_with fail
    go_quiet (fail)
    go_wp2_with fail
    go_roundw
    case rel =>
     refine ⟨k + 1, hlt, by go_num, ?_, below_drewN hb _⟩
     rw [HT.out, List.any_append, HA.out]; simp [HR.out]
    case measure => simp [intOf]; omega
  ·have q5 : decide (k < ps.length) = false := decide_eq_false hlt
   have HN : Hid (q = false) := by
    have := HA.out
    rw [List.take_of_length_le (by omega)] at this
    show _ = _
    rw [← HQ.out]; exact this
   clear hlt
   go_wp2_with fail
   go_ret
   exact ⟨by rw [HN.out]; rfl, hW⟩
set_option maxRecDepth 100000 in
set_option maxHeartbeats 2000000 in
theorem rahead_as (nm : ByteArray) (x y : DOff) (v : Value) (ps : List Pik) (q : Bool) (hq : decide (cmpO ps nm x y < 0) = q) (w : World) (hv : Piks w v ps) (hx : x.v.p.size ≤ 300) (hy : y.v.p.size ≤ 300) :
  Calls Tryz.prog 48 #[.string nm, .agg #[.int .i64 x.v.a, .int .i64 x.v.b, .int .i64 x.v.c, .string x.v.p, .bool x.y, x.nv], .agg #[.int .i64 y.v.a, .int .i64 y.v.b, .int .i64 y.v.c, .string y.v.p, .bool y.y, y.nv], v] w fun e w' => e = .returned (.bool q) ∧ Below w.heap.size w w' := by
 obtain ⟨a0, cap0, rfl⟩ := hv.len
 have hx1 := Below.refl (w.heap.size + 1) (w.alloc (.cells #[.int .i64 x.v.a, .int .i64 x.v.b, .int .i64 x.v.c, .string x.v.p, .bool x.y, x.nv] 55))
 have hx2 := hx1.alloc (by simp) (.cells #[.int .i64 y.v.a, .int .i64 y.v.b, .int .i64 y.v.c, .string y.v.p, .bool y.y, y.nv] 55)
 have hW := below_first hx2
 have hc := box_ver hx2
 have hsz : (w.alloc (.cells #[.int .i64 x.v.a, .int .i64 x.v.b, .int .i64 x.v.c, .string x.v.p, .bool x.y, x.nv] 55)).heap.size = w.heap.size + 1 := by simp
 have hy1 := Below.refl ((w.alloc (.cells #[.int .i64 x.v.a, .int .i64 x.v.b, .int .i64 x.v.c, .string x.v.p, .bool x.y, x.nv] 55)).heap.size + 1) ((w.alloc (.cells #[.int .i64 x.v.a, .int .i64 x.v.b, .int .i64 x.v.c, .string x.v.p, .bool x.y, x.nv] 55)).alloc (.cells #[.int .i64 y.v.a, .int .i64 y.v.b, .int .i64 y.v.c, .string y.v.p, .bool y.y, y.nv] 55))
 have hd := box_ver hy1
 rw [hsz] at hd
 obtain ⟨p, hp⟩ : ∃ p, lockedB ps nm x.v = p := ⟨_, rfl⟩
 obtain ⟨r, hr⟩ : ∃ r, lockedB ps nm y.v = r := ⟨_, rfl⟩
 have HQ : Hid (q = decide (or2 (if p = r then 0 else if p = true then -1 else 1) (V4.cmp y.v x.v) < 0)) := by
  show _ = _
  rw [← hq]; unfold cmpO lockN; rw [hp, hr]
 have HX := Lib.hid (fun W (h : Below w.heap.size w W) => rlocked_as _ ps nm x.v p hp W (hv.below h (Nat.le_refl _)))
 have HY := Lib.hid (fun W (h : Below w.heap.size w W) => rlocked_as _ ps nm y.v r hr W (hv.below h (Nat.le_refl _)))
 clear hx1 hx2 hy1 hsz hp hr hq hv
 have HC : Hid (VerAt _ _ x.v) := hc
 have HD : Hid (VerAt _ _ y.v) := hd
 obtain ⟨c0, c1, c2, c3⟩ := hc
 go_enter Tryz.func48, Tryz.ntmps48
 go_wp2_with fail
 refine (HX.out _ hW).mono ?_
 rintro e w1 ⟨rfl, hb1⟩
 have hb2 := below_then hW hb1
 have HC1 := Lib.hid (HC.out.on hb1)
 obtain ⟨d0, d1, d2, d3⟩ := HD.out.on hb1
 clear c0 c1 c2 c3
 have hz := cell_lt d0
 go_wp2_with fail
 refine (HY.out _ hb2).mono ?_
 rintro e w2 ⟨rfl, hb3⟩
 have hb4 := below_then hb2 hb3
 obtain ⟨c0, c1, c2, c3⟩ := HC1.out.on hb3
 obtain ⟨f0, f1, f2, f3⟩ := VerAt.on ⟨d0, d1, d2, d3⟩ hb3
 clear d0 d1 d2 d3 hb1 hb3
 cases p <;> cases r
 case false.true =>
  have HF : Hid (q = false) := by show _ = _; rw [HQ.out]; rfl
  go_wp2_with fail
  go_ret
  exact ⟨by rw [HF.out]; rfl, hb4⟩
 case true.false =>
  have HF : Hid (q = true) := by show _ = _; rw [HQ.out]; rfl
  go_wp2_with fail
  go_ret
  exact ⟨by rw [HF.out]; rfl, hb4⟩
 all_goals
  obtain ⟨z, hz'⟩ : ∃ z, V4.cmp x.v y.v = z := ⟨_, rfl⟩
  have HF : Hid (decide (0 < z) = q) := by
   show _ = _
   rw [HQ.out, ← hz']
   have : V4.cmp x.v y.v = - V4.cmp y.v x.v := good_v4.1 _ _
   rw [this]
   simp [or2]
  have HZ := Lib.hid (refCmpQ_as x.v y.v z hz' w2 hx hy)
  clear hz'
  go_wp2_with fail
  refine HZ.out.mono ?_
  rintro e w3 ⟨rfl, hb5⟩
  have hb6 := below_then hb4 hb5
  clear hb5
  go_wp2_with fail
  go_ret
  exact ⟨by rw [← HF.out]; rfl, hb6⟩
end Go.Proofs.YtbgimpeklblcjaaGreatDoor

namespace Go.Proofs.YtbgimpeklblcjaaGreatDoor
open Go.RowKit
set_option maxRecDepth 100000 in
set_option maxHeartbeats 1000000 in
theorem insertion_nil (fv : Value) (w : World) : Calls Tryz.prog 94 #[.slice none 0 0, .int .i64 0, .int .i64 0, fv] w fun e w' => e = .returned (.tuple #[]) ∧ w' = w := by
 go_enter Tryz.func94, Tryz.ntmps94
 go_wp2_with fail
 go_loopw [8] (fun i wr => i = .int .i64 1 ∧ wr = w) (fun _ _ => 0)
 case atStart => exact ⟨rfl, rfl⟩
 case round =>
  obtain ⟨rfl, rfl⟩ := hrel
  go_wp2_with fail
  go_end0
  exact ⟨rfl, rfl⟩
set_option maxRecDepth 100000 in
set_option maxHeartbeats 1000000 in
theorem stable_nil (fv : Value) (w : World) : Calls Tryz.prog 58 #[.slice none 0 0, .int .i64 0, fv] w fun e w' => e = .returned (.tuple #[]) ∧ w' = w := by
 go_enter Tryz.func58, Tryz.ntmps58
 go_wp2_with fail
 go_loopw [7, 8] (fun i j wr => i = .int .i64 0 ∧ j = .int .i64 20 ∧ wr = w) (fun _ _ _ => 0)
 case atStart => exact ⟨rfl, rfl, rfl⟩
 case round =>
  obtain ⟨rfl, rfl, rfl⟩ := hrel
  go_wp2_with fail
  refine (insertion_nil fv wr).mono ?_
  rintro e w1 ⟨rfl, rfl⟩
  go_wp2_with fail
  go_loopw [6] (fun i wr => i = .int .i64 20 ∧ wr = w1) (fun _ _ => 0)
  case atStart => exact ⟨rfl, rfl⟩
  case round =>
   obtain ⟨rfl, rfl⟩ := hrel
   go_wp2_with fail
   go_end0
   exact ⟨rfl, rfl⟩
set_option maxRecDepth 100000 in
set_option maxHeartbeats 1000000 in
theorem sortStable_nil (fv : Value) (w : World) : Calls Tryz.prog 28 #[.slice none 0 0, fv] w fun e w' => e = .returned (.tuple #[]) ∧ w' = w := by
 go_enter Tryz.func28, Tryz.ntmps28
 go_wp2_with fail
 refine (stable_nil fv w).mono ?_
 rintro e w1 ⟨rfl, rfl⟩
 go_wp2_with fail
 go_end0
 exact ⟨rfl, rfl⟩
theorem info_offer : (Tryz.prog.info? 55).map (fun i => (i.zero, i.size, i.bytes)) = some (some (.agg #[.int .i64 0, .int .i64 0, .int .i64 0, .string ⟨#[]⟩, .bool false, .slice none 0 0]), 6, 72) := by kernel_rfl
def OffersPost (lock : List Pik) (nm : ByteArray) (needs : List (Want × Value)) (os : List DOff) (w : World) (e : Ending) (w' : World) : Prop :=
 ∃ x out, e = .returned x ∧ ChoiceIs lock nm needs os out ∧ ORow w' x out ∧ Below w.heap.size w w' ∧ FreshV w.heap.size x
/-- an offer lies in a block -/
def OffAt (w : World) (b : Nat) (o : DOff) : Prop := VerAt w b o.v ∧ w.cell? ⟨b, 4, none⟩ = some (.bool o.y) ∧ w.cell? ⟨b, 5, none⟩ = some o.nv
theorem OffAt.on {w w' : World} {b : Nat} {o : DOff} (h : OffAt w b o) (hb : Below w.heap.size w w') : OffAt w' b o := ⟨h.1.on hb, cell_on h.2.1 hb, cell_on h.2.2 hb⟩
theorem offAt_new {w w1 : World} {o : DOff} {T : TypeId} (h : Below (w.heap.size + 1) (w.alloc (.cells #[.int .i64 o.v.a, .int .i64 o.v.b, .int .i64 o.v.c, .string o.v.p, .bool o.y, o.nv] T)) w1) : OffAt w1 w.heap.size o :=
 ⟨box_ver h, box_cells h 4, box_cells h 5⟩
theorem checkO_as (v : V4) (r : Int) (hr : (if v.ok then 0 else 40) = r) (w : World) (hE : Env w) (hs : v.p.size ≤ 300) :
  Calls Tryz.prog 27 #[.agg #[.int .i64 v.a, .int .i64 v.b, .int .i64 v.c, .string v.p]] w fun e w' => e = .returned (.int .i64 r) ∧ Below w.heap.size w w' := by
 subst hr; exact check_any _ _ _ _ w hE (by omega)
theorem meetsO_as (x : V4) (v : Value) (bs : List Bnd) (r : Bool) (hr : meetsR x bs = r) (w : World) (hv : Bnds w v bs) (hlen : ∃ a cap, v = .slice a bs.length cap) (hE : Env w) (hx : x.p.size ≤ 300) (hp : ∀ b ∈ bs, b.v.p.size ≤ 300) (hn : bs.length ≤ 1000) :
  Calls Tryz.prog 137 #[.agg #[.int .i64 x.a, .int .i64 x.b, .int .i64 x.c, .string x.p], v] w fun e w' => e = .returned (.bool r) ∧ Below w.heap.size w w' := by
 subst hr; exact meets_any x v bs w hv hlen hE hx hp hn
theorem row6_at (w : World) (B : Nat) (hB : B = w.heap.size) (a b c d e f : Value) (t : TypeId) : ∀ j u, [a, b, c, d, e, f][j]? = some u → (w.alloc (.cells #[a, b, c, d, e, f] t)).cell? ((⟨B, 0, none⟩ : Addr).add j) = some u := by
 subst hB
 intro j u hj
 match j, hj with
 | 0, hj => simp at hj; subst hj; simp [Addr.add]
 | 1, hj => simp at hj; subst hj; simp [Addr.add]
 | 2, hj => simp at hj; subst hj; simp [Addr.add]
 | 3, hj => simp at hj; subst hj; simp [Addr.add]
 | 4, hj => simp at hj; subst hj; simp [Addr.add]
 | 5, hj => simp at hj; subst hj; simp [Addr.add]
def OfRel (lock : List Pik) (nm : ByteArray) (needs : List (Want × Value)) (os : List DOff) (W3 : World) (v i : Value) (wr : World) : Prop :=
 ∃ (k : Nat) (out : List DOff), k ≤ os.length ∧ i = .int .i64 (k : Int) ∧ selL lock nm needs (os.take k) = out ∧ out.length ≤ k ∧ wr.ownsRow W3.heap.size 55 6 v out.length (out.flatMap DOff.cells) ∧ Below W3.heap.size W3 wr
def NdRel (nm : ByteArray) (needs : List (Want × Value)) (v : V4) (b0 : Bool) (w2 : World) (x i : Value) (wr : World) : Prop :=
 ∃ (k : Nat) (b : Bool), k ≤ needs.length ∧ i = .int .i64 (k : Int) ∧ x = .bool b ∧ b = (b0 && (needs.take k).all (needOk nm v)) ∧ Below w2.heap.size w2 wr
theorem owns_len {w : World} {base n : Nat} {e : TypeId} {size : Nat} {v : Value} {xs : List Value} (h : w.ownsRow base e size v n xs) : ∃ a cap, v = .slice a n cap := by
 rcases Joins.ownsRow_forms h with ⟨h1, h2⟩ | ⟨g, cap, h1⟩
 ·exact ⟨none, 0, by rw [h1, h2]⟩
 ·exact ⟨_, cap, h1⟩
set_option maxRecDepth 100000 in
set_option maxHeartbeats 8000000 in
theorem offers_any (nm : ByteArray) (ov : Value) (os : List DOff) (lk : Value) (lock : List Pik) (nv : Value) (needs : List (Want × Value)) (w : World)
  (ho : Offs w ov os) (hl : Piks w lk lock) (hn : Wants w nv needs) (hE : Env w) (hos : os.length ≤ 1000000) (hop : ∀ o ∈ os, o.v.p.size ≤ 300) (hnd : ∀ x ∈ needs, x.1.bs.length ≤ 1000 ∧ ∀ b ∈ x.1.bs, b.v.p.size ≤ 300) :
  Calls Tryz.prog 110 #[.agg #[.string nm, ov], lk, nv] w (OffersPost lock nm needs os w) := by
 obtain ⟨a0, cap0, rfl⟩ := ho.1.len.2
 obtain ⟨a1, cap1, rfl⟩ := hl.len
 obtain ⟨hmx, a2, cap2, rfl⟩ := hn.len
 have hmx2 : needs.length ≤ 9223372036854775807 := Nat.le_trans hmx (by decide)
 have hx1 := Below.refl (w.heap.size + 1) (w.alloc (.cells #[.string nm, .slice a0 os.length cap0] 52))
 have hx2 := hx1.alloc (by simp) (.cells #[.slice a1 lock.length cap1] 23)
 have hx3 := hx2.alloc (by simp) (.cells #[.func (.func 133) #[] #[.pointer (some ⟨w.heap.size + 1, 0, none⟩), .pointer (some ⟨w.heap.size, 0, none⟩)]] 163)
 have hW := below_first hx3
 have c0 := box_cells hx3 0
 have hsz : (w.alloc (.cells #[.string nm, .slice a0 os.length cap0] 52)).heap.size = w.heap.size + 1 := by simp
 have hsz2 : ((w.alloc (.cells #[.string nm, .slice a0 os.length cap0] 52)).alloc (.cells #[.slice a1 lock.length cap1] 23)).heap.size = w.heap.size + 1 + 1 := by simp
 have hy1 := Below.refl ((w.alloc (.cells #[.string nm, .slice a0 os.length cap0] 52)).heap.size + 1) ((w.alloc (.cells #[.string nm, .slice a0 os.length cap0] 52)).alloc (.cells #[.slice a1 lock.length cap1] 23))
 have hy2 := hy1.alloc (by simp) (.cells #[.func (.func 133) #[] #[.pointer (some ⟨w.heap.size + 1, 0, none⟩), .pointer (some ⟨w.heap.size, 0, none⟩)]] 163)
 have c1 := box_cells hy2 0
 have hz1 := Below.refl (((w.alloc (.cells #[.string nm, .slice a0 os.length cap0] 52)).alloc (.cells #[.slice a1 lock.length cap1] 23)).heap.size + 1) (((w.alloc (.cells #[.string nm, .slice a0 os.length cap0] 52)).alloc (.cells #[.slice a1 lock.length cap1] 23)).alloc (.cells #[.func (.func 133) #[] #[.pointer (some ⟨w.heap.size + 1, 0, none⟩), .pointer (some ⟨w.heap.size, 0, none⟩)]] 163))
 have c2 := box_cells hz1 0
 rw [hsz] at c1
 rw [hsz2] at c2
 have HO := Lib.hid (ho.below hW (Nat.le_refl _))
 have HN := Lib.hid (hn.below hW (Nat.le_refl _))
 have HLk : Hid (LockedAt (((w.alloc (.cells #[.string nm, .slice a0 os.length cap0] 52)).alloc (.cells #[.slice a1 lock.length cap1] 23)).alloc (.cells #[.func (.func 133) #[] #[.pointer (some ⟨w.heap.size + 1, 0, none⟩), .pointer (some ⟨w.heap.size, 0, none⟩)]] 163)) (.slice a1 lock.length cap1) lock nm (w.heap.size + 1) w.heap.size (w.heap.size + 1 + 1)) :=
  ⟨hl.below hW (Nat.le_refl _), c1, c0, c2, hE.below hW⟩
 have HOp := Lib.hid hop
 have HNd := Lib.hid hnd
 have HI := Lib.hid info_offer
 have HW := Lib.hid hW
 clear ho hl hn hE hx1 hx2 hx3 c0 c1 c2 hy1 hy2 hz1 hsz hsz2 hop hnd hW hmx
 go_enter Tryz.func110, Tryz.ntmps110
 go_wp2_with fail
 generalize (((w.alloc (.cells #[.string nm, .slice a0 os.length cap0] 52)).alloc (.cells #[.slice a1 lock.length cap1] 23)).alloc (.cells #[.func (.func 133) #[] #[.pointer (some ⟨w.heap.size + 1, 0, none⟩), .pointer (some ⟨w.heap.size, 0, none⟩)]] 163)) = W3 at *
 go_loopw [8, 18] (fun v i wr => OfRel lock nm needs os W3 v i wr) (fun _ i _ => os.length - (intOf i).toNat)
 case atStart => exact ⟨0, [], Nat.zero_le _, rfl, rfl, Nat.zero_le _, World.ownsRow_nil _ _ _ _, Below.refl _ _⟩
 case round =>
  obtain ⟨k, out, hk, rfl, hsel, hol, hown, hb⟩ := hrel
  obtain ⟨va, vcap, rfl⟩ := owns_len hown
  have HSel := Lib.hid hsel
  have HOw := Lib.hid hown
  clear hsel hown
  by_cases hlt : k < os.length
  ·have i0 : (0 : Int) ≤ (k : Int) := by omega
   have i1 : (k : Int) < (os.length : Int) := by omega
   obtain ⟨bx, ox, rfl, hbx, c0, c1, c2, c3, c4, c5⟩ := HO.out.1.at' hb hlt
   have HT := Lib.hid (List.take_succ_eq_append_getElem hlt)
   have hmem := List.getElem_mem hlt
   obtain ⟨o, hxe⟩ : ∃ o, os[k] = o := ⟨_, rfl⟩
   rw [hxe] at c0 c1 c2 c3 c4 c5 HT hmem
   have hop := HOp.out o hmem
   have hst5 : ∀ W : World, Sem.run Tryz.prog (store ⟨W.heap.size, 5, none⟩ o.nv) (W.alloc (.cells #[.int .i64 o.v.a, .int .i64 o.v.b, .int .i64 o.v.c, .string o.v.p, .bool o.y, .slice none 0 0] 55)) = .ok () (W.alloc (.cells #[.int .i64 o.v.a, .int .i64 o.v.b, .int .i64 o.v.c, .string o.v.p, .bool o.y, o.nv] 55)) := fun W => by
    obtain ⟨a, c, e⟩ := (HO.out.2 o hmem).2
    rw [e]; go_simp
   have r5 := hst5 wr
   have HSt5 := Lib.hid hst5
   clear hst5
   have HSt : Hid (selL lock nm needs (os.take (k + 1)) = selStep lock nm needs out o) := by
    show _ = _
    rw [HT.out, ← HSel.out]; unfold selL; rw [List.foldl_append]; rfl
   clear hxe hmem
   have hw1 : Below (wr.heap.size + 1) (wr.alloc (.cells #[.int .i64 o.v.a, .int .i64 o.v.b, .int .i64 o.v.c, .string o.v.p, .bool o.y, o.nv] 55)) (wr.alloc (.cells #[.int .i64 o.v.a, .int .i64 o.v.b, .int .i64 o.v.c, .string o.v.p, .bool o.y, o.nv] 55)) := Below.refl _ _
   have ho1 := offAt_new hw1
   have hb1 := below_first hw1
   obtain ⟨th, hth⟩ : ∃ th, thereB out o = th := ⟨_, rfl⟩
   have HIn := Lib.hid (offIn_as (.slice va out.length vcap) out o wr.heap.size th hth _ ((ORow.of_owns HOw.out).below hb1 (Nat.le_refl _)) ho1.1)
   have HTh := Lib.hid hth
   clear hth
   have HO1 := Lib.hid ho1
   clear ho1 hw1
   cases th
   case true =>
    have HS2 : Hid (selL lock nm needs (os.take (k + 1)) = out) := by
     show _ = _
     rw [HSt.out]; unfold selStep; rw [HTh.out]; simp
    go_wp2_with fail
    refine HIn.out.mono ?_
    rintro e w2 ⟨rfl, hb2⟩
    have hb3 := below_then hb1 hb2
    have hb4 := below_then hb hb3
    clear c0 c1 c2 c3 c4 c5 hb1 hb2
    go_wp2_with fail
    go_roundw
    case rel => exact ⟨k + 1, out, hlt, by go_num, HS2.out, by omega, owns_below HOw.out hb3, hb4⟩
    case measure => simp [intOf]; omega
   case false =>
    go_wp2_with fail
    refine HIn.out.mono ?_
    rintro e w2 ⟨rfl, hb2⟩
    have hb3 := below_then hb1 hb2
    have hb4 := below_then hb hb3
    have HO2 := Lib.hid (HO1.out.on hb2)
    have HL2 := Lib.hid (HLk.out.on hb4)
    have HOw2 := Lib.hid (owns_below HOw.out hb3)
    clear c0 c1 c2 c3 c4 c5 hb1 hb2 hb3 HO1 HIn
    obtain ⟨b0, hb0⟩ : ∃ b0, (o.v.ok && (!o.y || lockedB lock nm o.v)) = b0 := ⟨_, rfl⟩
    have HB0 := Lib.hid hb0
    clear hb0
    go_upto_region 7 with fail
    go_cut [11] (fun x wx => x = .bool b0 ∧ Below w2.heap.size w2 wx)
    case first =>
     obtain ⟨⟨v0, v1, v2, v3⟩, v4, _⟩ := HO2.out
     obtain ⟨ok, hok⟩ : ∃ b, o.v.ok = b := ⟨_, rfl⟩
     obtain ⟨yk, hyk⟩ : ∃ b, o.y = b := ⟨_, rfl⟩
     have hbb := HB0.out
     rw [hok, hyk] at hbb
     rw [hyk] at v4
     cases ok
     ·have HC := Lib.hid (checkO_as o.v 40 (by rw [hok]; rfl) w2 HL2.out.env hop)
      have HBB : Hid (b0 = false) := hbb.symm
      clear hbb hok hyk
      go_wp2_with fail
      refine HC.out.mono ?_
      rintro e w3 ⟨rfl, hb3⟩
      clear v0 v1 v2 v3 v4
      go_wp2_with fail
      go_meet
      case rel => exact ⟨by rw [HBB.out], hb3⟩
     ·have HC := Lib.hid (checkO_as o.v 0 (by rw [hok]; rfl) w2 HL2.out.env hop)
      cases yk
      ·have HBB : Hid (b0 = true) := hbb.symm
       clear hbb hok hyk
       go_wp2_with fail
       refine HC.out.mono ?_
       rintro e w3 ⟨rfl, hb3⟩
       have v4' := cell_on v4 hb3
       have hz := cell_lt v4'
       clear v0 v1 v2 v3 v4
       go_wp2_with fail
       go_meet
       case rel => exact ⟨by rw [HBB.out], hb3⟩
      ·have HBB : Hid (lockedB lock nm o.v = b0) := by show _ = _; rw [← hbb]; simp
       clear hbb hok hyk
       go_wp2_with fail
       refine HC.out.mono ?_
       rintro e w3 ⟨rfl, hb3⟩
       have v4' := cell_on v4 hb3
       have HC2 := Lib.hid (lockedC_as o.v b0 HBB.out (HL2.out.on hb3))
       have hfn := (HL2.out.on hb3).fn
       have hz := cell_lt v4'
       have hz2 := cell_lt hfn
       clear v4
       obtain ⟨v0, v1, v2, v3⟩ := (VerAt.on ⟨v0, v1, v2, v3⟩ hb3)
       go_wp2_with fail
       refine HC2.out.mono ?_
       rintro e w4 ⟨rfl, hb4⟩
       have hb5 := below_then hb3 hb4
       clear v0 v1 v2 v3 v4' hfn hb4
       go_wp2_with fail
       go_meet
       case rel => exact ⟨rfl, hb5⟩
    case rest =>
     obtain ⟨rfl, hb5⟩ := hcut
     have HB5 := Lib.hid hb5
     clear hb5
     go_wp2_with fail
     go_loopw [11, 42] (fun x i wx => NdRel nm needs o.v b0 w2 x i wx) (fun _ i _ => needs.length - (intOf i).toNat)
     case atStart => exact ⟨0, b0, Nat.zero_le _, rfl, rfl, by simp, HB5.out⟩
     case round =>
      obtain ⟨k2, b, hk2, rfl, rfl, hbb, hb6⟩ := hrel
      have HBb := Lib.hid hbb
      clear hbb
      have hb7 := below_then hb4 hb6
      by_cases hlt2 : k2 < needs.length
      ·have j0 : (0 : Int) ≤ (k2 : Int) := by omega
       have j1 : (k2 : Int) < (needs.length : Int) := by omega
       obtain ⟨bn, on, rfl, hbn, g0, g1⟩ := HN.out.at' hb7 hlt2
       have HT2 := Lib.hid (List.take_succ_eq_append_getElem hlt2)
       have hmem := List.getElem_mem hlt2
       obtain ⟨⟨nd, rv⟩, hne⟩ : ∃ x, needs[k2] = x := ⟨_, rfl⟩
       rw [hne] at g0 g1 HT2 hmem
       obtain ⟨hbs, ra, rcap, hrv⟩ := HN.out.2 _ hmem
       simp only at g0 g1 hbs hrv
       subst hrv
       have HND := Lib.hid (HNd.out _ hmem)
       have hn1 : Below (wr.heap.size + 1) (wr.alloc (.cells #[.string (S nd.name), .slice ra nd.bs.length rcap] 60)) (wr.alloc (.cells #[.string (S nd.name), .slice ra nd.bs.length rcap] 60)) := Below.refl _ _
       have hn2 := below_first hn1
       have hn3 := below_then hb6 hn2
       have HBs := Lib.hid (hbs.below (below_then hb7 hn2) (Nat.le_refl _))
       have L0 := HL2.out.on hb6
       have L1 := L0.on hn2
       have O1 := (HO2.out.on hb6).on hn2
       have n0 := L0.nm
       have n1 := L1.nm
       have hzn := cell_lt n0
       obtain ⟨⟨v0, v1, v2, v3⟩, _, _⟩ := O1
       obtain ⟨⟨u0, _, _, _⟩, _, _⟩ := HO2.out.on hb6
       have hzo := cell_lt u0
       have d0 := box_cells hn1 0
       have d1 := box_cells hn1 1
       simp only [List.getElem?_toArray, List.getElem?_cons_zero, List.getElem?_cons_succ] at d0 d1
       have HEn := Lib.hid L1.env
       clear u0 hne hmem hbs L0 L1 hn1 hn2
       obtain ⟨eq, heq⟩ : ∃ eq, ((S nd.name).toList == nm.toList) = eq := ⟨_, rfl⟩
       have hne : ((S nd.name).toList != nm.toList) = !eq := by rw [← heq]; rfl
       have HNe : Hid ((!eq) = decide (nd.name ≠ nm.data.toList)) := by
        show _ = _
        rw [← heq, Lib.toList_data, Lib.toList_data, S_data]
        by_cases h : nd.name = nm.data.toList
        ·rw [h]; simp
        ·rw [decide_eq_true h]; simpa using h
       cases b
       ·clear n1 v0 v1 v2 v3 d0 d1
        go_wp2_with fail
        go_roundw
        case rel =>
         refine ⟨k2 + 1, false, hlt2, by go_num, rfl, ?_, hn3⟩
         rw [HT2.out, List.all_append, ← Bool.and_assoc, ← HBb.out]; rfl
        case measure => simp [intOf]; omega
       ·cases eq
        ·have hp : ¬ (S nd.name).toList = nm.toList := beq_eq_false_iff_ne.1 heq
         simp only [Bool.not_false] at hne HNe
         go_wp2_with fail
         go_roundw
         case rel =>
          refine ⟨k2 + 1, true, hlt2, by go_num, rfl, ?_, hn3⟩
          rw [HT2.out, List.all_append, ← Bool.and_assoc, ← HBb.out]
          simp [needOk, ← HNe.out]
         case measure => simp [intOf]; omega
        ·have hp : (S nd.name).toList = nm.toList := beq_iff_eq.1 heq
         simp only [Bool.not_true] at hne HNe
         obtain ⟨r, hr⟩ : ∃ r, meetsR o.v nd.bs = r := ⟨_, rfl⟩
         have HM := Lib.hid (meetsO_as o.v (.slice ra nd.bs.length rcap) nd.bs r hr _ HBs.out ⟨_, _, rfl⟩ HEn.out hop HND.out.2 HND.out.1)
         have HR := Lib.hid hr
         clear hr
         go_wp2_with fail
         refine HM.out.mono ?_
         rintro e w5 ⟨rfl, hb8⟩
         have hb9 := below_then hn3 hb8
         clear n0 n1 v0 v1 v2 v3 d0 d1 g0 g1 hb8 hn3
         go_wp2_with fail
         go_roundw
         case rel =>
          refine ⟨k2 + 1, r, hlt2, by go_num, rfl, ?_, hb9⟩
          rw [HT2.out, List.all_append, ← Bool.and_assoc, ← HBb.out]
          simp [needOk, ← HNe.out, HR.out]
         case measure => simp [intOf]; omega
      ·have q6 : decide (k2 < needs.length) = false := decide_eq_false hlt2
       have HFt : Hid (fitO lock nm needs o = b) := by
        show _ = _
        rw [HBb.out, ← HB0.out, List.take_of_length_le (by omega)]; rfl
       have hown6 := owns_below HOw2.out hb6
       obtain ⟨⟨v0, v1, v2, v3⟩, v4, v5⟩ := HO2.out.on hb6
       have HO6 := Lib.hid hown6
       clear hlt2 hown6
       cases b
       ·have HS2 : Hid (selL lock nm needs (os.take (k + 1)) = out) := by
         show _ = _
         rw [HSt.out]; unfold selStep; rw [HFt.out]; simp
        go_wp2_with fail
        go_roundw
        case rel => exact ⟨k + 1, out, hlt, by go_num, HS2.out, by omega, HO6.out, hb7⟩
        case measure => simp [intOf]; omega
       ·have HS2 : Hid (selL lock nm needs (os.take (k + 1)) = out ++ [o]) := by
         show _ = _
         rw [HSt.out]; unfold selStep; rw [HFt.out, HTh.out]; simp
        have hz := cell_lt v0
        have hB3 := hb7.size
        obtain ⟨i0', hi, hz0, hz1, hz2⟩ : ∃ i, Tryz.prog.info? 55 = some i ∧ i.zero = some (.agg #[.int .i64 0, .int .i64 0, .int .i64 0, .string ⟨#[]⟩, .bool false, .slice none 0 0]) ∧ i.size = 6 ∧ i.bytes = 72 := by
         have := HI.out
         rcases h : Tryz.prog.info? 55 with _ | i
         ·rw [h] at this; cases this
         ·rw [h] at this
          simp only [Option.map_some, Option.some.injEq, Prod.mk.injEq] at this
          exact ⟨i, rfl, this.1, this.2.1, this.2.2⟩
        go_wp2_with (at_builtin; go_must (refine wpList_append_own _ rfl _ _ 50 rfl W3.heap.size 55 i0' (.agg #[.int .i64 0, .int .i64 0, .int .i64 0, .string ⟨#[]⟩, .bool false, .slice none 0 0]) 6 72 Tryz.underlying50 hi hz0 hz1 hz2 rfl (by decide) _ _ _ rfl (HO6.out.alloc _) ⟨_, 0, none⟩ 1 1 [.int .i64 o.v.a, .int .i64 o.v.b, .int .i64 o.v.c, .string o.v.p, .bool o.y, o.nv] rfl rfl ?c1 ?c2 ?c3 ?c4 ?c5 ?_))
        case c1 => exact row6_at _ _ (by simp) _ _ _ _ _ _ _
        case c2 => intro u hu; simp at hu; rcases hu with rfl | rfl | rfl | rfl | rfl | rfl <;> rfl
        case c3 => unfold maxLen; omega
        case c4 => omega
        case c5 => simp; omega
        intro v' w8 hown2 hg2 _
        have hb8 := below_grown (hb7.alloc hB3 _) (HO6.out.alloc _) hg2 (by simp; omega)
        obtain ⟨g2, cap2, hv2⟩ := Joins.ownsRow_form hown2 (by omega)
        subst hv2
        have HO8 := Lib.hid hown2
        clear hg2 hown2
        go_wp2
        go_roundw
        case rel =>
         refine ⟨k + 1, out ++ [o], hlt, by go_num, HS2.out, by rw [List.length_append]; simp; omega, ?_, hb8⟩
         have h := HO8.out
         rw [List.flatMap_append, List.length_append]
         exact h
        case measure => simp [intOf]; omega
  ·have q5 : decide (k < os.length) = false := decide_eq_false hlt
   have HSe : Hid (selL lock nm needs os = out) := by
    have h := HSel.out
    rw [List.take_of_length_le (by omega)] at h
    exact h
   have hLr := HLk.out.on hb
   have hbw := HW.out.trans (hb.mono HW.out.size)
   have hsz3 := HW.out.size
   clear hlt
   rcases Joins.ownsRow_forms HOw.out with ⟨hv, h0⟩ | ⟨g, cap, hv⟩
   ·injection hv with e1 _ e3
    subst e1 e3
    have ho : out = [] := List.eq_nil_of_length_eq_zero h0
    rw [h0]
    have HF : Hid (OffersPost lock nm needs os w (.returned (.slice none 0 0)) wr) :=
     ⟨_, [], rfl, ⟨by rw [HSe.out, ho], List.Pairwise.nil⟩, by have h := ORow.of_owns HOw.out; rw [ho] at h; exact h, hbw, FreshV.nil _ _ _⟩
    clear ho h0
    go_wp2_with fail
    refine (sortStable_nil _ _).mono ?_
    rintro e w2 ⟨rfl, rfl⟩
    go_wp2_with fail
    go_ret
    exact HF.out
   ·injection hv with e1 _ e3
    subst e1 e3
    have hO6 : Own6 dsix W3.heap.size 55 g out.length vcap (seqOf out) wr := by
     show World.ownsRow _ _ _ _ _ _ _
     rw [flat6_seq]; exact HOw.out
    have hgood : ∀ t, t < out.length → (seqOf out t).1.v.p.size ≤ 300 := fun t ht => by
     rw [seq_get out ht]
     exact HOp.out _ (sel_mem (lock := lock) (nm := nm) (needs := needs) (by rw [HSe.out]; exact List.getElem_mem ht))
    have hcm : Cmp6 dsix Tryz.prog 138 #[.pointer (some ⟨w.heap.size + 1 + 1, 0, none⟩)] (fun o => o.v.p.size ≤ 300) (cmpO lock nm) wr g := fun W hg x y hx hy =>
     cmp1_any x y W (HLk.out.on (below_grown hb HOw.out hg (by have := hb.size; omega))) hx hy
    have HS := Lib.hid (sortStable_any dsix W3.heap.size g out.length vcap wr (fun o => o.v.p.size ≤ 300) (cmpO lock nm) (good_cmpO lock nm) 138 #[.pointer (some ⟨w.heap.size + 1 + 1, 0, none⟩)] (fun args w => by go_simp) hcm
     (seqOf out) wr hO6 (grown_same _ _) (by omega) dsix_one hgood (fun p q h _ => h))
    clear hO6 hgood hcm hLr
    go_wp2_with fail
    refine HS.out.mono ?_
    rintro e w2 ⟨rfl, ⟨kk, hp, hs, hown2⟩, hg2⟩
    have hbF : Below w.heap.size w w2 := HW.out.trans ((below_grown hb HOw.out hg2 (by have := hb.size; omega)).mono hsz3)
    have HF : Hid (OffersPost lock nm needs os w (.returned (.slice (some ⟨g, 0, none⟩) out.length vcap)) w2) := by
     show OffersPost _ _ _ _ _ _ _
     have hse := HSe.out
     obtain ⟨out', h1, h2, h3⟩ := sorted_choice (lock := lock) (nm := nm) (needs := needs) (os := os) (k := kk) (n := out.length) (by rw [hse]) (by rw [hse]; exact hp) hs
     have hown3 : w2.ownsRow W3.heap.size 55 6 (.slice (some ⟨g, 0, none⟩) out.length vcap) out.length (flat6 dsix out.length kk) := hown2
     rw [h3] at hown3
     exact ⟨_, out', rfl, h1, ORow.of_owns hown3, hbF, (FreshV.of_owns hown3).mono hsz3⟩
    clear hp hs hown2 hg2 hbF
    go_wp2_with fail
    go_ret
    exact HF.out
end Go.Proofs.YtbgimpeklblcjaaGreatDoor

namespace Go.Proofs.YtbgimpeklblcjaaGreatDoor
open Go.RowKit
theorem refCheckO_as (v : V4) (r : Int) (hr : (if v.ok then 0 else 40) = r) (w : World) (hs : v.p.size ≤ 300) :
  Calls Tryz.prog 36 #[.agg #[.int .i64 v.a, .int .i64 v.b, .int .i64 v.c, .string v.p]] w fun e w' => e = .returned (.int .i64 r) ∧ Below w.heap.size w w' := by
 subst hr; exact refCheck_any _ _ _ _ w (by omega)
theorem rmeetsO_as (x : V4) (v : Value) (bs : List Bnd) (r : Bool) (hr : meetsR x bs = r) (w : World) (hv : Bnds w v bs) (hlen : ∃ a cap, v = .slice a bs.length cap) (hx : x.p.size ≤ 300) (hp : ∀ b ∈ bs, b.v.p.size ≤ 300) (hn : bs.length ≤ 1000) :
  Calls Tryz.prog 88 #[.agg #[.int .i64 x.a, .int .i64 x.b, .int .i64 x.c, .string x.p], v] w fun e w' => e = .returned (.bool r) ∧ Below w.heap.size w w' := by
 subst hr; exact rmeets_any x v bs w hv hlen hx hp hn
/-- an offer lies in the first block of a call -/
def RcRel (nm : ByteArray) (needs : List (Want × Value)) (o : DOff) (w2 : World) (i : Value) (wr : World) : Prop :=
 ∃ k : Nat, k ≤ needs.length ∧ i = .int .i64 (k : Int) ∧ (needs.take k).all (needOk nm o.v) = true ∧ Below w2.heap.size w2 wr
theorem need_no {nm : ByteArray} {v : V4} {needs : List (Want × Value)} {x : Want × Value} (h : x ∈ needs) (hn : needOk nm v x = false) : needs.all (needOk nm v) = false := by
 rw [List.all_eq_false]
 exact ⟨x, h, by rw [hn]; decide⟩
set_option maxRecDepth 100000 in
set_option maxHeartbeats 4000000 in
theorem rchoice_as (nm : ByteArray) (o : DOff) (v : Value) (ps : List Pik) (nv : Value) (needs : List (Want × Value)) (q : Bool) (hq : fitO ps nm needs o = q) (w : World) (hv : Piks w v ps) (hn : Wants w nv needs) (hx : o.v.p.size ≤ 300)
  (hnd : ∀ x ∈ needs, x.1.bs.length ≤ 1000 ∧ ∀ b ∈ x.1.bs, b.v.p.size ≤ 300) :
  Calls Tryz.prog 47 #[.string nm, .agg #[.int .i64 o.v.a, .int .i64 o.v.b, .int .i64 o.v.c, .string o.v.p, .bool o.y, o.nv], v, nv] w fun e w' => e = .returned (.bool q) ∧ Below w.heap.size w w' := by
 obtain ⟨a0, cap0, rfl⟩ := hv.len
 obtain ⟨hmx, a2, cap2, rfl⟩ := hn.len
 have hmx2 : needs.length ≤ 9223372036854775807 := Nat.le_trans hmx (by decide)
 have hx1 : Below (w.heap.size + 1) (w.alloc (.cells #[.int .i64 o.v.a, .int .i64 o.v.b, .int .i64 o.v.c, .string o.v.p, .bool o.y, o.nv] 55)) (w.alloc (.cells #[.int .i64 o.v.a, .int .i64 o.v.b, .int .i64 o.v.c, .string o.v.p, .bool o.y, o.nv] 55)) := Below.refl _ _
 have hW := below_first hx1
 have HV := Lib.hid (offAt_new hx1)
 obtain ⟨ok, hok⟩ : ∃ b, o.v.ok = b := ⟨_, rfl⟩
 obtain ⟨yk, hyk⟩ : ∃ b, o.y = b := ⟨_, rfl⟩
 obtain ⟨lk, hlk⟩ : ∃ b, lockedB ps nm o.v = b := ⟨_, rfl⟩
 have HQ : Hid (q = ((ok && (!yk || lk)) && needs.all (needOk nm o.v))) := by
  show _ = _
  rw [← hq, ← hok, ← hyk, ← hlk]; rfl
 have HC : Hid (∀ r : Int, (if ok then 0 else 40) = r → Calls Tryz.prog 36 #[.agg #[.int .i64 o.v.a, .int .i64 o.v.b, .int .i64 o.v.c, .string o.v.p]] (w.alloc (.cells #[.int .i64 o.v.a, .int .i64 o.v.b, .int .i64 o.v.c, .string o.v.p, .bool o.y, o.nv] 55)) fun e w' => e = .returned (.int .i64 r) ∧ Below (w.alloc (.cells #[.int .i64 o.v.a, .int .i64 o.v.b, .int .i64 o.v.c, .string o.v.p, .bool o.y, o.nv] 55)).heap.size (w.alloc (.cells #[.int .i64 o.v.a, .int .i64 o.v.b, .int .i64 o.v.c, .string o.v.p, .bool o.y, o.nv] 55)) w') := fun r hr => by
  rw [← hok] at hr
  exact refCheckO_as o.v r hr _ hx
 have HL := Lib.hid (fun W (h : Below w.heap.size w W) => rlocked_as _ ps nm o.v lk hlk W (hv.below h (Nat.le_refl _)))
 have HN := Lib.hid hn
 have HNd := Lib.hid hnd
 have HY := Lib.hid hyk
 clear hx1 hok hlk hq hv hn hnd hmx hyk
 obtain ⟨f, hf⟩ : ∃ f, (!(ok && (!yk || lk))) = f := ⟨_, rfl⟩
 have HF := Lib.hid hf
 clear hf
 go_enter Tryz.func47, Tryz.ntmps47
 go_upto_region 1 with fail
 go_cut [25] (fun x wx => x = .bool f ∧ Below (w.alloc (.cells #[.int .i64 o.v.a, .int .i64 o.v.b, .int .i64 o.v.c, .string o.v.p, .bool o.y, o.nv] 55)).heap.size (w.alloc (.cells #[.int .i64 o.v.a, .int .i64 o.v.b, .int .i64 o.v.c, .string o.v.p, .bool o.y, o.nv] 55)) wx)
 case first =>
  obtain ⟨⟨c0, c1, c2, c3⟩, c4, _⟩ := HV.out
  have hff := HF.out
  cases ok
  ·have HCk := Lib.hid (HC.out 40 rfl)
   have HFF : Hid (f = true) := hff.symm
   clear hff
   go_wp2_with fail
   refine HCk.out.mono ?_
   rintro e w1 ⟨rfl, hb1⟩
   go_wp2_with fail
   go_meet
   case rel => exact ⟨by rw [HFF.out], hb1⟩
  ·have HCk := Lib.hid (HC.out 0 rfl)
   cases yk
   ·have HFF : Hid (f = false) := hff.symm
    clear hff
    go_wp2_with fail
    refine HCk.out.mono ?_
    rintro e w1 ⟨rfl, hb1⟩
    have d4 := cell_on c4 hb1
    rw [HY.out] at d4
    have hz := cell_lt d4
    clear c0 c1 c2 c3 c4
    go_wp2_with fail
    go_meet
    case rel => exact ⟨by rw [HFF.out], hb1⟩
   ·have HFF : Hid (f = !lk) := by show _ = _; rw [← hff]; simp
    clear hff
    go_wp2_with fail
    refine HCk.out.mono ?_
    rintro e w1 ⟨rfl, hb1⟩
    have d4 := cell_on c4 hb1
    rw [HY.out] at d4
    have hz := cell_lt d4
    have HL1 := Lib.hid (HL.out w1 (below_then hW hb1))
    obtain ⟨d0, d1, d2, d3⟩ := VerAt.on ⟨c0, c1, c2, c3⟩ hb1
    clear c0 c1 c2 c3 c4
    go_wp2_with fail
    refine HL1.out.mono ?_
    rintro e w2 ⟨rfl, hb2⟩
    have hb3 := below_then hb1 hb2
    clear d0 d1 d2 d3 d4 hb1 hb2
    go_wp2_with fail
    go_meet
    case rel => exact ⟨by rw [HFF.out], hb3⟩
 case rest =>
  obtain ⟨rfl, hb1⟩ := hcut
  have hb2 := below_then hW hb1
  have HQ2 : Hid (q = ((!f) && needs.all (needOk nm o.v))) := by show _ = _; rw [HQ.out, ← HF.out, Bool.not_not]
  have HV1 := Lib.hid (HV.out.on hb1)
  clear hb1 HC HL
  cases f
  case true =>
   go_wp2_with fail
   go_ret
   exact ⟨by rw [HQ2.out]; rfl, hb2⟩
  go_wp2_with fail
  go_loopw [9] (fun i wy => RcRel nm needs o wc i wy) (fun i _ => needs.length - (intOf i).toNat)
  case atStart => exact ⟨0, Nat.zero_le _, rfl, rfl, Below.refl _ _⟩
  case round =>
   obtain ⟨k, hk, rfl, hall, hb3⟩ := hrel
   have HA := Lib.hid hall
   have hb4 := below_then hb2 hb3
   clear hall
   by_cases hlt : k < needs.length
   ·have j0 : (0 : Int) ≤ (k : Int) := by omega
    have j1 : (k : Int) < (needs.length : Int) := by omega
    obtain ⟨bn, on, rfl, hbn, g0, g1⟩ := HN.out.at' hb4 hlt
    have HT2 := Lib.hid (List.take_succ_eq_append_getElem hlt)
    have hmem := List.getElem_mem hlt
    obtain ⟨⟨nd, rv⟩, hne⟩ : ∃ x, needs[k] = x := ⟨_, rfl⟩
    rw [hne] at g0 g1 HT2 hmem
    obtain ⟨hbs, ra, rcap, hrv⟩ := HN.out.2 _ hmem
    simp only at g0 g1 hbs hrv
    subst hrv
    have HND := Lib.hid (HNd.out _ hmem)
    have HM := Lib.hid hmem
    have HBs := Lib.hid (hbs.below hb4.drew (Nat.le_refl _))
    obtain ⟨⟨v0, v1, v2, v3⟩, _, _⟩ := HV1.out.on hb3
    have hzo := cell_lt v0
    clear hne hmem hbs
    by_cases hn : nd.name = nm.data.toList
    ·have e0 : S nd.name = nm := by rw [hn]; exact ByteArray.ext (by simp [S])
     rw [e0] at g0
     have e1 : (nm.toList == nm.toList) = true := beq_self_eq_true _
     obtain ⟨r, hr⟩ : ∃ r, meetsR o.v nd.bs = r := ⟨_, rfl⟩
     have HMt := Lib.hid (rmeetsO_as o.v (.slice ra nd.bs.length rcap) nd.bs r hr _ HBs.out ⟨_, _, rfl⟩ hx HND.out.2 HND.out.1)
     have HR : Hid (needOk nm o.v (nd, .slice ra nd.bs.length rcap) = r) := by
      show _ = _
      unfold needOk; simp [hn, hr]
     clear hr e0
     go_wp2_with fail
     refine region_still_tail 15 (by kernel_rfl) (by kernel_rfl) ?_
     simp only [List.take_succ_cons, List.take_zero, List.drop_succ_cons, List.drop_zero]
     repeat still_step
     refine wpStill_nil ?_
     go_wp2_with fail
     refine HMt.out.mono ?_
     rintro e w5 ⟨rfl, hb5⟩
     have hb6 := below_then hb3.drew hb5
     have hb7 := below_then hb4.drew hb5
     clear v0 v1 v2 v3 hb5 g0 g1
     cases r
     ·have HE : Hid (q = false) := by
       show _ = _
       rw [HQ2.out, need_no HM.out HR.out]; rfl
      go_wp2_with fail
      go_ret
      exact ⟨by rw [HE.out]; rfl, hb7⟩
     ·go_wp2_with fail
      go_roundw
      case rel =>
       refine ⟨k + 1, hlt, by go_num, ?_, hb6⟩
       rw [HT2.out, List.all_append, HA.out]; simp [HR.out]
      case measure => simp [intOf]; omega
    ·have e1 : ((S nd.name).toList == nm.toList) = false := by
      rw [beq_eq_false_iff_ne, Lib.toList_data, Lib.toList_data, S_data]; exact hn
     have hp : ¬ (S nd.name).toList = nm.toList := beq_eq_false_iff_ne.1 e1
     have HR : Hid (needOk nm o.v (nd, .slice ra nd.bs.length rcap) = true) := by
      show _ = _
      unfold needOk; simp [hn]
     clear hn
     go_wp2_with fail
     go_quiet (fail)
     go_wp2_with fail
     go_roundw
     case rel =>
      refine ⟨k + 1, hlt, by go_num, ?_, below_drewN hb3 _⟩
      rw [HT2.out, List.all_append, HA.out]; simp [HR.out]
     case measure => simp [intOf]; omega
   ·have q5 : decide (k < needs.length) = false := decide_eq_false hlt
    have HE : Hid (q = true) := by
     have := HA.out
     rw [List.take_of_length_le (by omega)] at this
     show _ = _
     rw [HQ2.out, this]; rfl
    clear hlt
    go_wp2_with fail
    go_ret
    exact ⟨by rw [HE.out]; rfl, hb4⟩
end Go.Proofs.YtbgimpeklblcjaaGreatDoor
