/- Explain: how many needs do not go together: the walk of Blame. -/
import Derived.Test.YtbgimpeklblcjaaGreatDoorChPre
import Derived.Test.YtbgimpeklblcjaaGreatDoorSol9
import Derived.Test.YtbgimpeklblcjaaGreatDoorSolPlains
namespace Go
open Go.RowKit
theorem wants_flat (xs : List (Want × Value)) : (xs.flatMap WCells).length = xs.length * 2 := by
 induction xs with
 | nil => rfl
 | cons x xs ih => rw [List.flatMap_cons, List.length_append, ih, List.length_cons]; simp [WCells]; omega
/-- the first needs -/
theorem wants_take {W : World} {na : Option Addr} {nc : Nat} {needs : List (Want × Value)} (h : Wants W (.slice na needs.length nc) needs) (hc : needs.length ≤ nc) {j : Nat} (hj : j ≤ needs.length) : Wants W (sliced na 0 j nc 2) (needs.take j) := by
 have hl : (needs.take j).length = j := by rw [List.length_take]; omega
 have hcells : ((needs.take j).flatMap WCells).length = (needs.take j).length * 2 := wants_flat _
 refine ⟨⟨hcells, by rw [hl]; exact Nat.le_trans hj h.1.2.1, ?_⟩, fun x hx => h.2 x (List.mem_of_mem_take hx)⟩
 rw [hl]
 have happ : needs.flatMap WCells = (needs.take j).flatMap WCells ++ (needs.drop j).flatMap WCells := by rw [← List.flatMap_append, List.take_append_drop]
 obtain ⟨⟨_, _, ⟨a, cap, h3, h4, h5⟩ | ⟨b, off, cap, h3, h4, h5, h6⟩⟩, _⟩ := h
 ·injection h3 with h3 h7 h8
  subst h3 h8
  refine .inl ⟨_, _, by unfold sliced; rw [show j = 0 by omega], by omega, fun ha => ?_⟩
  by_cases hz : nc = 0
  ·rw [hz]
  ·rw [if_neg hz] at ha
   cases na with
   | none => exact absurd (h5 rfl) hz
   | some _ => cases ha
 ·injection h3 with h3 h7 h8
  subst h3 h8
  have hadd : (⟨b, off, none⟩ : Addr).add (0 * 2) = ⟨b, off, none⟩ := by simp [Addr.add]
  have hs : sliced (some ⟨b, off, none⟩) 0 j nc 2 = .slice (some ⟨b, off, none⟩) j nc := by
   unfold sliced
   rw [if_neg (by omega), Option.map_some, hadd]; rfl
  rw [hs]
  rcases Nat.eq_zero_or_pos j with h0 | h0
  ·subst h0
   exact .inl ⟨_, _, rfl, rfl, fun h => by cases h⟩
  ·refine .inr ⟨b, off, nc, rfl, h0, h5, fun i hi => ?_⟩
   rw [h6 i (by omega), happ, List.getElem?_append_left (by rw [hcells, hl]; exact hi)]
theorem SmallP.take {ps : List DPack} {lock : List Pik} {needs : List (Want × Value)} (h : SmallP ps lock needs) (j : Nat) : SmallP ps lock (needs.take j) :=
 ⟨h.few, h.fewl, h.os, h.lk, by have := h.nd.1; rw [List.length_take]; omega, fun x hx => h.nd.2 x (List.mem_of_mem_take hx)⟩
end Go
namespace Go.Proofs.YtbgimpeklblcjaaGreatDoor
open Go.RowKit Go.Maps
def BlamePost (lock : List Pik) (needs : List (Want × Value)) (ps : List DPack) (bud : Int) (w : World) (e : Ending) (w' : World) : Prop :=
 ∃ (k : Nat) (er : Int), e = .returned (.tuple #[.int .i64 (k : Int), .int .i64 er]) ∧ BlameIs lock needs ps bud k er ∧ Below w.heap.size w w'
def BlRel (lock : List Pik) (needs : List (Want × Value)) (ps : List DPack) (bud : Int) (w : World) (i : Value) (wr : World) : Prop :=
 ∃ j : Nat, j ≤ needs.length + 1 ∧ i = .int .i64 (j : Int) ∧ (∀ k, k < j → SolE lock (needs.take k) ps bud 0) ∧ Below w.heap.size w wr
set_option maxRecDepth 100000 in
set_option maxHeartbeats 4000000 in
theorem blame_as {lock : List Pik} {needs : List (Want × Value)} {ps : List DPack} {pk lk nv : Value} {w : World} (hS : SmallP ps lock needs) (hp : Packs w pk ps) (hl : Piks w lk lock) (hn : Wants w nv needs) (hcap : ∀ a n c, nv = .slice a n c → n ≤ c) (hE : Env w) (bud : Int) (h0 : -9223372036854775808 ≤ bud) (h1 : bud ≤ 9223372036854775807) :
  Calls Tryz.prog 11 #[pk, lk, nv, .int .i64 bud] w (BlamePost lock needs ps bud w) := by
 obtain ⟨hmx, na, nc, rfl⟩ := hn.len
 have hnc := hcap _ _ _ rfl
 have hn30 := hS.nd.1
 have HS := Lib.hid hS
 have HX := Lib.hid (⟨hp, hl, hn, hE⟩ : _ ∧ _ ∧ _ ∧ _)
 have C := SmallP.ctx hS hp hl hn hE
 obtain ⟨er, her⟩ : ∃ e, needErr needs = e := ⟨_, rfl⟩
 have hCk := chCheck_any _ needs w C.wants C.env (fun x hx => (C.nds x hx).2)
 rw [her] at hCk
 have HCk := Lib.hid hCk
 have HEr := Lib.hid her
 have HBud := Lib.hid (⟨h0, h1⟩ : _ ∧ _)
 have hwn : IntKind.i64.wrap ((needs.length : Int) + 1) = (needs.length : Int) + 1 := by rw [IntKind.wrap_i64]; omega
 have HNc := Lib.hid hnc
 have HN30 := Lib.hid hn30
 clear hS hp hl hn hcap hE C hCk her h0 h1 hmx hnc hn30
 go_enter Tryz.func11, Tryz.ntmps11
 go_wp2_with fail
 refine HCk.out.mono ?_
 rintro e w1 ⟨rfl, hb1⟩
 by_cases he : er = 0
 case neg =>
  have q0 : (er != 0) = true := bne_iff_ne.2 he
  have HF : Hid (BlamePost lock needs ps bud w (.returned (.tuple #[.int .i64 0, .int .i64 er])) w1) :=
   ⟨0, er, rfl, .inl ⟨by rw [HEr.out]; exact he, rfl, HEr.out.symm⟩, hb1⟩
  clear he hb1
  go_wp2_with fail
  go_ret2
  exact HF.out
 subst he
 have HB1 := Lib.hid hb1
 clear hb1
 go_wp2_with fail
 go_loopw [23] (fun i wr => BlRel lock needs ps bud w i wr) (fun i _ => needs.length + 1 - (intOf i).toNat)
 case atStart => exact ⟨0, Nat.zero_le _, rfl, fun k h => absurd h (Nat.not_lt_zero _), HB1.out⟩
 case round =>
  obtain ⟨j, hj, rfl, hall, hb⟩ := hrel
  have HA := Lib.hid hall
  have HB := Lib.hid hb
  clear hall
  by_cases hlt : j < needs.length + 1
  ·have q1 : decide ((j : Int) < (needs.length : Int) + 1) = true := decide_eq_true (by omega)
   have q2 : (j : Int) < (needs.length : Int) + 1 := by omega
   have hst2 : ∀ W, (sizeOf (Tryz.prog.elem 24)).run Tryz.prog W = .ok 2 W := fun W => by go_simp
   have hws := wants_take (HX.out.2.2.1.below hb (Nat.le_refl _)) HNc.out (show j ≤ needs.length by omega)
   obtain ⟨sv, hsv⟩ : ∃ v, sliced na 0 j nc 2 = v := ⟨_, rfl⟩
   rw [hsv] at hws
   have hsl : ∀ W, (Instr.slice 24 (.slice na needs.length nc) none (some (.int .i64 (j : Int))) none).run Tryz.prog W = .ok sv W := fun W => by
    have := run_slice_h (P := Tryz.prog) (w := W) (t := 24) (a := na) (len := needs.length) (cap := nc) rfl .i64 (j : Int) (by omega) (by have := HNc.out; omega)
    rw [this, hst2]
    simp [Result.andThen, hsv]
   have HSo := Lib.hid (solve_as (SmallP.ctx (HS.out.take j) (HX.out.1.below hb (Nat.le_refl _)) (HX.out.2.1.below hb (Nat.le_refl _)) hws (HX.out.2.2.2.below hb)) (fun ts ht => small_tab (HS.out.take j) ht) bud HBud.out.1 HBud.out.2)
   have HLt := Lib.hid hlt
   clear hws hsv hst2 hb hlt
   go_wp2_with fail
   refine HSo.out.mono ?_
   rintro e w3 ⟨v, r, n, er, rfl, hsol, _, hb3⟩
   have HB3 := Lib.hid (below_then HB.out hb3)
   have HSl : Hid (SolE lock (needs.take j) ps bud er) := ⟨r, n, hsol⟩
   clear hsol hb3
   by_cases h250 : er = 250
   ·subst h250
    have HF : Hid (BlamePost lock needs ps bud w (.returned (.tuple #[.int .i64 (j : Int), .int .i64 0])) w3) :=
     ⟨j, 0, rfl, .inr ⟨HEr.out, j, HA.out, .inl ⟨by have := HLt.out; omega, HSl.out, rfl, rfl⟩⟩, HB3.out⟩
    go_wp2_with fail
    go_ret2
    exact HF.out
   have q3 : (er == 250) = false := beq_eq_false_iff_ne.2 h250
   by_cases h0 : er = 0
   ·subst h0
    have HNx : Hid (∀ k, k < j + 1 → SolE lock (needs.take k) ps bud 0) := by
     show ∀ _, _
     intro k hk
     rcases Nat.lt_succ_iff_lt_or_eq.1 hk with h | rfl
     ·exact HA.out k h
     ·exact HSl.out
    have hwj : IntKind.i64.wrap ((j : Int) + 1) = (j : Int) + 1 := by have := HLt.out; have := HN30.out; rw [IntKind.wrap_i64]; omega
    clear h250
    go_wp2_with fail
    go_roundw
    case rel => exact ⟨j + 1, HLt.out, by go_num, HNx.out, HB3.out⟩
    case measure => have := HLt.out; simp [intOf]; omega
   ·have q4 : (er == 0) = false := beq_eq_false_iff_ne.2 h0
    have HF : Hid (BlamePost lock needs ps bud w (.returned (.tuple #[.int .i64 0, .int .i64 er])) w3) :=
     ⟨0, er, rfl, .inr ⟨HEr.out, j, HA.out, .inr (.inl ⟨by have := HLt.out; omega, h0, h250, HSl.out, rfl⟩)⟩, HB3.out⟩
    clear h250 h0
    go_wp2_with fail
    go_ret2
    exact HF.out
  ·have q1 : decide ((j : Int) < (needs.length : Int) + 1) = false := decide_eq_false (by omega)
   have q2 : ¬ (j : Int) < (needs.length : Int) + 1 := by omega
   have HF : Hid (BlamePost lock needs ps bud w (.returned (.tuple #[.int .i64 0, .int .i64 0])) wr) :=
    ⟨0, 0, rfl, .inr ⟨HEr.out, j, HA.out, .inr (.inr ⟨by omega, rfl, rfl⟩)⟩, HB.out⟩
   clear hlt hb
   go_wp2_with fail
   go_ret2
   exact HF.out
end Go.Proofs.YtbgimpeklblcjaaGreatDoor
