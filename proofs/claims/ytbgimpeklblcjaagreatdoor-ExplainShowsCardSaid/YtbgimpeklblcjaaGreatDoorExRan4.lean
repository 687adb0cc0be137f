/- The reference of layer 5: Show; for Explain. -/
import Derived.Test.YtbgimpeklblcjaaGreatDoorRefTxt
import Derived.Test.YtbgimpeklblcjaaGreatDoorExRan
namespace Go.Proofs.YtbgimpeklblcjaaGreatDoor
open Go.RowKit
theorem showRQ_any (v : V4) (h : v.ok = true) (T : ByteArray) (hT : S v.show = T) (w : World) :
  Calls Tryz.prog 38 #[.agg #[.int .i64 v.a, .int .i64 v.b, .int .i64 v.c, .string v.p]] w fun e w' => e = .returned (.tuple #[.string T, .int .i64 0]) ∧ Below w.heap.size w w' := by
 have hb := verOk_bounds h
 have e1 : ((v.a.toNat : Nat) : Int) = v.a := by omega
 have e2 : ((v.b.toNat : Nat) : Int) = v.b := by omega
 have e3 : ((v.c.toNat : Nat) : Int) = v.c := by omega
 have hv : verErr v.a v.b v.c v.p.data.toList = 0 := by unfold verErr; rw [if_pos (show verOk v.a v.b v.c v.p.data.toList = true from h)]
 have := refShow_yes v.a.toNat v.b.toNat v.c.toNat v.p w (by rw [Lib.size_eq]; omega) (by omega) (by omega) (by omega) (by rw [e1, e2, e3]; exact hv)
 rw [e1, e2, e3] at this
 subst hT
 exact this
theorem rrcheck_as (v : Value) (bs : List Bnd) (r : Int) (h : rangeErr bs = r) (w : World) (hv : Bnds w v bs) (hlen : ∃ a cap, v = .slice a bs.length cap) (hp : ∀ x ∈ bs, x.v.p.size ≤ 9223372036854775807) :
  Calls Tryz.prog 50 #[v] w fun e w' => e = .returned (.int .i64 r) ∧ Below w.heap.size w w' := by
 subst h; exact rrcheck_any v bs w hv hlen hp
theorem showB_snoc (bs : List Bnd) (x : Bnd) : showB (bs ++ [x]) = showB bs ++ (if bs.isEmpty then [] else [32]) ++ x.show := by
 unfold showB
 rw [List.map_append]
 cases bs with
 | nil => simp [joinAt]
 | cons b bs =>
  rw [show List.map Bnd.show [x] = [x.show] from rfl, joinAt_snoc 32 _ (by simp)]
  simp
def RShRel (bs : List Bnd) (w1 : World) (v i : Value) (wr : World) : Prop :=
 ∃ (k : Nat) (out : ByteArray), k ≤ bs.length ∧ i = .int .i64 (k : Int) ∧ v = .string out ∧ out.data.toList = showB (bs.take k) ∧ out.size ≤ 63 * k ∧ Below w1.heap.size w1 wr
theorem rsh_step {bs : List Bnd} {k : Nat} {x : Bnd} {out A T : ByteArray} (ht : bs.take (k + 1) = bs.take k ++ [x]) (ho : out.data.toList = showB (bs.take k)) (hA : S (signL x.op) = A) (hT : S x.v.show = T) (hk : k ≤ bs.length) :
  (k = 0 → (out ++ A ++ T).data.toList = showB (bs.take (k + 1))) ∧ (0 < k → (out ++ ⟨#[32]⟩ ++ A ++ T).data.toList = showB (bs.take (k + 1))) := by
 have e1 : ∀ a b : ByteArray, (a ++ b).data.toList = a.data.toList ++ b.data.toList := by intro a b; simp
 rw [ht, showB_snoc]
 subst hA hT
 constructor
 ·intro h
  subst h
  rw [e1, e1, ho]
  simp [S_data, Bnd.show]
 ·intro h
  have hne : (bs.take k).isEmpty = false := by
   cases hb : bs.take k with
   | nil =>
    have := congrArg List.length hb
    rw [List.length_take, List.length_nil] at this
    omega
   | cons => rfl
  rw [e1, e1, e1, ho, hne]
  simp [S_data, Bnd.show]
set_option maxRecDepth 100000 in
set_option maxHeartbeats 2000000 in
theorem rrshow_no (v : Value) (bs : List Bnd) (w : World) (hv : Bnds w v bs) (hlen : ∃ a cap, v = .slice a bs.length cap) (hp : ∀ x ∈ bs, x.v.p.size ≤ 9223372036854775807) (h : rangeErr bs = 50) :
  Calls Tryz.prog 35 #[v] w fun e w' => e = .returned (.tuple #[.string ⟨#[]⟩, .int .i64 50]) ∧ Below w.heap.size w w' := by
 have H := Lib.hid (rrcheck_as v bs 50 h w hv hlen hp)
 clear h hv hlen hp
 go_enter Tryz.func35, Tryz.ntmps35
 go_wp2_with fail
 refine H.out.mono ?_
 rintro e w1 ⟨rfl, hb1⟩
 go_wp2_with fail
 go_ret2
 exact ⟨rfl, hb1⟩
set_option maxRecDepth 100000 in
set_option maxHeartbeats 4000000 in
theorem rrshow_yes (v : Value) (bs : List Bnd) (w : World) (hv : Bnds w v bs) (hlen : ∃ a cap, v = .slice a bs.length cap) (hp : ∀ x ∈ bs, x.v.p.size ≤ 9223372036854775807) (h : rangeOk bs = true) :
  Calls Tryz.prog 35 #[v] w fun e w' => e = .returned (.tuple #[.string (S (showR bs)), .int .i64 0]) ∧ Below w.heap.size w w' := by
 have H := Lib.hid (rrcheck_as v bs 0 (by unfold rangeErr; rw [if_pos h]) w hv hlen hp)
 have HAll := Lib.hid (rangeOk_all h).2
 have hb20 := (rangeOk_all h).1
 obtain ⟨a0, cap0, rfl⟩ := hlen
 clear h hp
 rcases hv.cases.2 with ⟨a, cap, hva, he⟩ | ⟨bx, ox, cap, hva, hn0, hbx, hc⟩
 ·have h0 : bs.length = 0 := by rw [he]; rfl
  rw [h0] at H ⊢
  have HF : Hid (S (showR bs) = ⟨#[42]⟩) := by show _ = _; rw [he]; rfl
  clear he h0 hv hva
  go_enter Tryz.func35, Tryz.ntmps35
  go_wp2_with fail
  refine H.out.mono ?_
  rintro e w1 ⟨rfl, hb1⟩
  go_wp2_with fail
  go_ret2
  exact ⟨by rw [HF.out]; rfl, hb1⟩
 have ha0 : a0 = some ⟨bx, ox, none⟩ := by injection hva
 have hcap : cap0 = cap := by injection hva
 subst ha0 hcap
 have HC := Lib.hid hc
 have q0 : ((bs.length : Int) == 0) = false := beq_eq_false_iff_ne.2 (by omega)
 have q0' : decide (bs.length = 0) = false := decide_eq_false (by omega)
 have HN0 := Lib.hid hn0
 clear hc hv hva
 go_enter Tryz.func35, Tryz.ntmps35
 go_wp2_with fail
 refine H.out.mono ?_
 rintro e w1 ⟨rfl, hb1⟩
 go_wp2_with fail
 go_loopw [4, 5, 6, 7] (fun v i _ _ wr => RShRel bs w1 v i wr) (fun _ i _ _ _ => bs.length - (intOf i).toNat)
 case atStart => exact ⟨0, ⟨#[]⟩, Nat.zero_le _, rfl, rfl, rfl, Nat.zero_le _, Below.refl _ _⟩
 case round =>
  obtain ⟨k, out, hk, rfl, rfl, hout, hoz, hb⟩ := hrel
  have HO := Lib.hid hout
  clear hout
  have hW := below_then hb1 hb
  by_cases hlt : k < bs.length
  ·have i0 : (0 : Int) ≤ (k : Int) := by omega
   have i1 : (k : Int) < (bs.length : Int) := by omega
   obtain ⟨g0, g1, g2, g3, g4⟩ := HC.out k hlt
   have c0 := (hW.cell (p := ⟨bx, ox + k * 5, none⟩) hbx).trans g0
   have c1 := (hW.cell (p := ⟨bx, ox + k * 5 + 1, none⟩) hbx).trans g1
   have c2 := (hW.cell (p := ⟨bx, ox + k * 5 + 2, none⟩) hbx).trans g2
   have c3 := (hW.cell (p := ⟨bx, ox + k * 5 + 3, none⟩) hbx).trans g3
   have c4 := (hW.cell (p := ⟨bx, ox + k * 5 + 4, none⟩) hbx).trans g4
   have hok := HAll.out _ (List.getElem_mem hlt)
   obtain ⟨x, hxe⟩ : ∃ x, bs[k] = x := ⟨_, rfl⟩
   rw [hxe] at c0 c1 c2 c3 c4 hok g0
   have HT0 := List.take_succ_eq_append_getElem hlt
   rw [hxe] at HT0
   have HV : Hid (x.v.ok = true) := by
    unfold Bnd.ok at hok
    rw [Bool.and_eq_true] at hok
    exact hok.2
   have hsl := show_len hok
   obtain ⟨A, hA⟩ : ∃ A, S (signL x.op) = A := ⟨_, rfl⟩
   obtain ⟨T, hT⟩ : ∃ T, S x.v.show = T := ⟨_, rfl⟩
   have HA := Lib.hid hA
   have HTT := Lib.hid hT
   have HStep := Lib.hid (rsh_step HT0 HO.out hA hT hk)
   have hAz : A.size + T.size ≤ 60 := by
    rw [← hA, ← hT, S_size, S_size]
    unfold Bnd.show at hsl
    rw [List.length_append] at hsl
    exact hsl
   have hoz2 : out.size ≤ 2000 := by omega
   have HG := Lib.hid g0
   clear g0 g1 g2 g3 g4 hxe hok hsl hA hT HT0
   by_cases h0 : k = 0
   ·have qk : decide ((0 : Int) < (k : Int)) = false := by simp; omega
    have qk' : decide (0 < k) = false := decide_eq_false (by omega)
    have HStep := Lib.hid (HStep.out.1 h0)
    clear h0
    go_wp2_with fail
    refine (showRQ_any x.v HV.out T HTT.out _).mono ?_
    rintro e w3 ⟨rfl, hb3⟩
    have hb5 := hb.trans (hb3.mono hb.size)
    have hW5 := below_then hb1 hb5
    have c0 := (hW5.cell (p := ⟨bx, ox + k * 5, none⟩) hbx).trans HG.out
    clear hb3
    go_wp2_with fail
    refine (rsign_as x.op A HA.out _).mono ?_
    rintro e w4 ⟨rfl, hb4⟩
    have hb6 := hb5.trans (hb4.mono hb5.size)
    clear hb4
    go_wp2_with fail
    go_roundw
    case rel =>
     refine ⟨k + 1, _, hlt, by go_num, rfl, HStep.out, ?_, hb6⟩
     simp only [ByteArray.size_append]; omega
    case measure => simp [intOf]; omega
   ·have qk : decide ((0 : Int) < (k : Int)) = true := by simp; omega
    have qk' : decide (0 < k) = true := decide_eq_true (by omega)
    have HStep := Lib.hid (HStep.out.2 (by omega))
    have hsp : (⟨#[32]⟩ : ByteArray).size = 1 := rfl
    clear h0
    go_wp2_with fail
    refine (showRQ_any x.v HV.out T HTT.out _).mono ?_
    rintro e w3 ⟨rfl, hb3⟩
    have hb5 := hb.trans (hb3.mono hb.size)
    have hW5 := below_then hb1 hb5
    have c0 := (hW5.cell (p := ⟨bx, ox + k * 5, none⟩) hbx).trans HG.out
    clear hb3
    go_wp2_with fail
    refine (rsign_as x.op A HA.out _).mono ?_
    rintro e w4 ⟨rfl, hb4⟩
    have hb6 := hb5.trans (hb4.mono hb5.size)
    clear hb4
    go_wp2_with fail
    go_roundw
    case rel =>
     refine ⟨k + 1, _, hlt, by go_num, rfl, HStep.out, ?_, hb6⟩
     simp only [ByteArray.size_append]; omega
    case measure => simp [intOf]; omega
  ·have q2 : decide (k < bs.length) = false := by simp; omega
   have HF : Hid (out = S (showR bs)) := by
    have h := HO.out
    rw [List.take_of_length_le (by omega)] at h
    show _ = _
    have hne : bs.isEmpty = false := by
     cases hb : bs with
     | nil => have := HN0.out; rw [hb] at this; cases this
     | cons => rfl
    unfold showR
    rw [hne]
    simp only [Bool.false_eq_true, if_false]
    rw [← h, S_of]
   clear hlt
   go_wp2_with fail
   go_ret2
   exact ⟨by rw [HF.out]; rfl, hW⟩
end Go.Proofs.YtbgimpeklblcjaaGreatDoor
