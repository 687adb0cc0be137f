/- Declarations that only the laws against the reference reach. -/
import Derived.Test.YtbgimpeklblcjaaGreatDoorBase
import Derived.Test.YtbgimpeklblcjaaGreatDoorExRan
import Derived.Lib.SplitLaws
import Derived.Lib.IndexBytes
import Derived.Test.YtbgimpeklblcjaaGreatDoorVerMath
import Derived.Test.YtbgimpeklblcjaaGreatDoorProg
import Derived.Test.YtbgimpeklblcjaaGreatDoorSemCom
import Derived.Test.YtbgimpeklblcjaaGreatDoorCells
import Derived.Deep.LoopGhost
import Derived.Lib.Hide
import Derived.RegionTactic
import Derived.ChangeAlike
import Derived.Deep.QuietTactic
import Derived.BigQuiet
import Derived.Deep.RegionWith
import Derived.Test.YtbgimpeklblcjaaGreatDoorSemRefs
import Derived.Test.YtbgimpeklblcjaaGreatDoorSeC
import Derived.Test.YtbgimpeklblcjaaGreatDoorRanRef1
import Derived.Test.YtbgimpeklblcjaaGreatDoorLex1
import Derived.Test.YtbgimpeklblcjaaGreatDoorLex2
import Derived.Test.YtbgimpeklblcjaaGreatDoorChOffers
import Derived.Test.YtbgimpeklblcjaaGreatDoorChChk
namespace Go
theorem joinAt_snoc (c : UInt8) : ∀ {ls : List (List UInt8)} (p : List UInt8), ls ≠ [] → joinAt c (ls ++ [p]) = joinAt c ls ++ c :: p
 | [], _, h => absurd rfl h
 | [q], p, _ => rfl
 | q :: s :: r, p, _ => by
  show joinAt c (q :: s :: (r ++ [p])) = _
  rw [joinAt, joinAt, show s :: (r ++ [p]) = (s :: r) ++ [p] from rfl, joinAt_snoc c p (by simp), List.append_assoc]; rfl
end Go
namespace Go.Proofs.YtbgimpeklblcjaaGreatDoor
open Go.RowKit
end Go.Proofs.YtbgimpeklblcjaaGreatDoor
namespace Go.Proofs.YtbgimpeklblcjaaGreatDoor
open Go.RowKit
end Go.Proofs.YtbgimpeklblcjaaGreatDoor
namespace Go.Proofs.YtbgimpeklblcjaaGreatDoor
open Go.RowKit
end Go.Proofs.YtbgimpeklblcjaaGreatDoor
namespace Go.Proofs.YtbgimpeklblcjaaGreatDoor
open Go.RowKit
end Go.Proofs.YtbgimpeklblcjaaGreatDoor
namespace Go.Proofs.YtbgimpeklblcjaaGreatDoor
open Go.RowKit
theorem digit_at (d : Nat) (h : d < 10) : (⟨#[48, 49, 50, 51, 52, 53, 54, 55, 56, 57]⟩ : ByteArray).extract d (d + 1) = S [UInt8.ofNat (48 + d)] := by
 have : d = 0 ∨ d = 1 ∨ d = 2 ∨ d = 3 ∨ d = 4 ∨ d = 5 ∨ d = 6 ∨ d = 7 ∨ d = 8 ∨ d = 9 := by omega
 rcases this with rfl | rfl | rfl | rfl | rfl | rfl | rfl | rfl | rfl | rfl <;> decide +kernel
def DRel (N : Nat) (n v : Value) : Prop := ∃ (m : Nat) (out : ByteArray), m ≤ N ∧ n = .int .i64 (m : Int) ∧ v = .string out ∧ out.size ≤ 1000001 - m ∧ dig10 N = (if m < 10 then [] else dig10 (m / 10)) ++ out.data.toList
theorem dig_step (m : Nat) : (if m < 10 then [] else dig10 (m / 10)) ++ [UInt8.ofNat (48 + m % 10)] = dig10 m := by
 by_cases h : m < 10
 ·rw [if_pos h, dig10_lt m h, Nat.mod_eq_of_lt h]; rfl
 ·rw [if_neg h, ← dig10_ge m (by omega)]
set_option maxRecDepth 100000 in
set_option maxHeartbeats 1000000 in
theorem refNum_any (N : Nat) (w : World) (hN : N ≤ 999999) :
  Calls Tryz.prog 71 #[.int .i64 (N : Int)] w fun e w' => e = .returned (.string (S (dig10 N))) ∧ w = w' := by
 have HD0 := Lib.hid (digit_at (N % 10) (Nat.mod_lt _ (by decide)))
 go_enter Tryz.func71, Tryz.ntmps71
 go_wp2_with fail
 go_loop [0, 3, 4] (fun n _ v => DRel N n v) (fun n _ _ => (intOf n).toNat)
 case atStart => exact ⟨N, _, Nat.le_refl _, rfl, rfl, by rw [HD0.out, S_size]; simp; omega, by rw [HD0.out, S_data, dig_step]⟩
 case round =>
  obtain ⟨m, out, hm, rfl, rfl, hsz, hdig⟩ := hrel
  have HG := Lib.hid hdig
  clear hdig
  by_cases hlt : m < 10
  ·have q1 : decide ((10 : Int) ≤ (m : Int)) = false := by simp; omega
   have HE : Hid (out = S (dig10 N)) := by
    show _ = _
    rw [HG.out, if_pos hlt, List.nil_append]; rfl
   clear hlt
   go_wp2_with fail
   go_ret
   exact ⟨by rw [← HE.out]; rfl, rfl⟩
  ·have q1 : decide ((10 : Int) ≤ (m : Int)) = true := by simp; omega
   have hlt' : 10 ≤ m := by omega
   obtain ⟨t, ht⟩ : ∃ t, t = m / 10 := ⟨_, rfl⟩
   have HD := Lib.hid (digit_at (m / 10 % 10) (Nat.mod_lt _ (by decide)))
   have HS := Lib.hid (dig_step (m / 10))
   have hx : ((⟨#[48, 49, 50, 51, 52, 53, 54, 55, 56, 57]⟩ : ByteArray).extract (m / 10 % 10) (m / 10 % 10 + 1)).size ≤ 1 := by rw [HD.out, S_size]; simp
   clear ht hlt
   go_wp2_with fail
   go_round
   case rel =>
    refine ⟨m / 10, _, by omega, by go_num, rfl, ?_, ?_⟩
    ·rw [HD.out, ByteArray.size_append, S_size]; simp; omega
    ·rw [HD.out, ByteArray.data_append, Array.toList_append, S_data, ← List.append_assoc, HS.out, HG.out, if_neg (by omega)]
   case measure => simp [intOf]; omega
end Go.Proofs.YtbgimpeklblcjaaGreatDoor
namespace Go.Proofs.YtbgimpeklblcjaaGreatDoor
open Go.RowKit
theorem num_quiet (N : Nat) (w : World) (hN : N ≤ 999999) :
  Calls Tryz.prog 71 #[.int .i64 (N : Int)] w fun e w' => e = .returned (.string (S (dig10 N))) ∧ w' = w :=
 (refNum_any N w hN).mono fun _ _ ⟨h1, h2⟩ => ⟨h1, h2.symm⟩
theorem check_as (a b c r : Int) (p : ByteArray) (h : verErr a b c p.data.toList = r) (w : World) (hs : p.size ≤ 9223372036854775807) :
  Calls Tryz.prog 36 #[.agg #[.int .i64 a, .int .i64 b, .int .i64 c, .string p]] w fun e w' => e = .returned (.int .i64 r) ∧ Below w.heap.size w w' := by
 subst h; exact refCheck_any a b c p w hs
set_option maxRecDepth 100000 in
set_option maxHeartbeats 1000000 in
theorem refShow_no (a b c : Int) (p : ByteArray) (w : World) (hs : p.size ≤ 9223372036854775807) (h : verErr a b c p.data.toList = 40) :
  Calls Tryz.prog 38 #[.agg #[.int .i64 a, .int .i64 b, .int .i64 c, .string p]] w fun e w' => e = .returned (.tuple #[.string ⟨#[]⟩, .int .i64 40]) ∧ Below w.heap.size w w' := by
 have H := Lib.hid h
 clear h
 go_enter Tryz.func38, Tryz.ntmps38
 go_wp2_with fail
 refine (check_as _ _ _ 40 _ H.out _ hs).mono ?_
 rintro e w1 ⟨rfl, hb1⟩
 have hbw := ((Below.refl w.heap.size w).alloc (Nat.le_refl _) (.cells #[.int .i64 a, .int .i64 b, .int .i64 c, .string p] 41)).trans (hb1.mono (by simp))
 go_wp2_with fail
 go_ret2
 exact ⟨rfl, hbw⟩
set_option maxRecDepth 100000 in
set_option maxHeartbeats 1000000 in
theorem refShow_yes (a b c : Nat) (p : ByteArray) (w : World) (hs : p.size ≤ 24) (ha : a ≤ 999999) (hb : b ≤ 999999) (hc : c ≤ 999999) (h : verErr a b c p.data.toList = 0) :
  Calls Tryz.prog 38 #[.agg #[.int .i64 (a : Int), .int .i64 (b : Int), .int .i64 (c : Int), .string p]] w fun e w' => e = .returned (.tuple #[.string (S (showL a b c p.data.toList)), .int .i64 0]) ∧ Below w.heap.size w w' := by
 have H := Lib.hid h
 clear h
 have sa := dig10_size a ha
 have sb := dig10_size b hb
 have sc := dig10_size c hc
 obtain ⟨A, hA⟩ : ∃ A, A = S (dig10 a) := ⟨_, rfl⟩
 obtain ⟨B, hB⟩ : ∃ B, B = S (dig10 b) := ⟨_, rfl⟩
 obtain ⟨C, hC⟩ : ∃ C, C = S (dig10 c) := ⟨_, rfl⟩
 have zA : A.size ≤ 7 := by rw [hA, S_size]; exact sa
 have zB : B.size ≤ 7 := by rw [hB, S_size]; exact sb
 have zC : C.size ≤ 7 := by rw [hC, S_size]; exact sc
 have QA := fun w => num_quiet a w ha
 have QB := fun w => num_quiet b w hb
 have QC := fun w => num_quiet c w hc
 rw [← hA] at QA
 rw [← hB] at QB
 rw [← hC] at QC
 have HA := Lib.hid QA
 have HB := Lib.hid QB
 have HC := Lib.hid QC
 have EA := Lib.hid hA
 have EB := Lib.hid hB
 have EC := Lib.hid hC
 clear QA QB QC hA hB hC
 go_enter Tryz.func38, Tryz.ntmps38
 go_wp2_with fail
 refine (check_as _ _ _ 0 _ H.out _ (by omega)).mono ?_
 rintro e w1 ⟨rfl, hb1⟩
 have hbw := ((Below.refl w.heap.size w).alloc (Nat.le_refl _) (.cells #[.int .i64 (a : Int), .int .i64 (b : Int), .int .i64 (c : Int), .string p] 41)).trans (hb1.mono (by simp))
 have hb2 : Below (w.heap.size + 1) (w.alloc (.cells #[.int .i64 (a : Int), .int .i64 (b : Int), .int .i64 (c : Int), .string p] 41)) w1 := hb1.mono (by simp)
 have c0 := box_cells hb2 0
 have c1 := box_cells hb2 1
 have c2 := box_cells hb2 2
 have c3 := box_cells hb2 3
 simp at c0 c1 c2 c3
 clear hb1 hb2
 go_wp2_with fail
 go_quiet ((first | (go_at_call_of 71 (Value.int .i64 (a : Int)); exact Calls.quiet_of_same (HA.out _)) | (go_at_call_of 71 (Value.int .i64 (b : Int)); exact Calls.quiet_of_same (HB.out _)) | (go_at_call_of 71 (Value.int .i64 (c : Int)); exact Calls.quiet_of_same (HC.out _))))
 go_wp2_with fail
 ·have hp : (!p.toList.isEmpty) = true := by assumption
  go_ret2
  refine ⟨?_, below_drewN hbw _⟩
  have e : A ++ ⟨#[46]⟩ ++ B ++ ⟨#[46]⟩ ++ C ++ ⟨#[45]⟩ ++ p = S (showL a b c p.data.toList) := by
   rw [Lib.toList_data] at hp
   unfold showL showCore
   rw [if_neg (by simpa using hp), EA.out, EB.out, EC.out, ← S_append, ← S_append, ← S_append, ← S_append, ← S_append, ← S_append]
   rfl
  rw [← e]; rfl
 ·have hp : (!p.toList.isEmpty) = false := by assumption
  go_ret2
  refine ⟨?_, below_drewN hbw _⟩
  have e : A ++ ⟨#[46]⟩ ++ B ++ ⟨#[46]⟩ ++ C = S (showL a b c p.data.toList) := by
   rw [Lib.toList_data] at hp
   unfold showL showCore
   rw [if_pos (by simpa using hp), EA.out, EB.out, EC.out, ← S_append, ← S_append, ← S_append, ← S_append]
   rfl
  rw [← e]; rfl
end Go.Proofs.YtbgimpeklblcjaaGreatDoor
namespace Go.Proofs.YtbgimpeklblcjaaGreatDoor
open Go.RowKit
set_option maxRecDepth 100000 in
set_option maxHeartbeats 1000000 in
theorem rsign_any (op : Int) (w : World) :
  Calls Tryz.prog 65 #[.int .i64 op] w fun e w' => e = .returned (.string (S (signL op))) ∧ Below w.heap.size w w' := by
 by_cases h1 : op < 1
 ·have q1 : decide (op < 1) = true := decide_eq_true h1
  have H : Hid (signL op = []) := by show _ = _; unfold signL; rw [if_neg (by omega), if_neg (by omega), if_neg (by omega), if_neg (by omega), if_neg (by omega)]
  clear h1
  go_enter Tryz.func65, Tryz.ntmps65
  go_wp2_with fail
  go_ret
  exact ⟨by rw [H.out]; rfl, Below.refl _ _⟩
 have q1 : decide (op < 1) = false := decide_eq_false h1
 by_cases h2 : 5 < op
 ·have q2 : decide (5 < op) = true := decide_eq_true h2
  have H : Hid (signL op = []) := by show _ = _; unfold signL; rw [if_neg (by omega), if_neg (by omega), if_neg (by omega), if_neg (by omega), if_neg (by omega)]
  clear h1 h2
  go_enter Tryz.func65, Tryz.ntmps65
  go_wp2_with fail
  go_ret
  exact ⟨by rw [H.out]; rfl, Below.refl _ _⟩
 have h3 : op = 1 ∨ op = 2 ∨ op = 3 ∨ op = 4 ∨ op = 5 := by omega
 clear h1 h2 q1
 rcases h3 with rfl | rfl | rfl | rfl | rfl
 all_goals
  go_enter Tryz.func65, Tryz.ntmps65
  go_wp2_with fail
  go_ret
  exact ⟨rfl, (Below.refl _ _).alloc (Nat.le_refl _) _⟩
theorem rsign_as (op : Int) (A : ByteArray) (h : S (signL op) = A) (w : World) :
  Calls Tryz.prog 65 #[.int .i64 op] w fun e w' => e = .returned (.string A) ∧ Below w.heap.size w w' := by
 subst h; exact rsign_any op w
theorem checkRQ_as (v : V4) (r : Int) (h : verErr v.a v.b v.c v.p.data.toList = r) (w : World) (hs : v.p.size ≤ 9223372036854775807) :
  Calls Tryz.prog 36 #[.agg #[.int .i64 v.a, .int .i64 v.b, .int .i64 v.c, .string v.p]] w fun e w' => e = .returned (.int .i64 r) ∧ Below w.heap.size w w' := by
 subst h; exact refCheck_any _ _ _ _ w hs
set_option maxRecDepth 100000 in
set_option maxHeartbeats 2000000 in
theorem rrcheck_any (v : Value) (bs : List Bnd) (w : World) (hv : Bnds w v bs) (hlen : ∃ a cap, v = .slice a bs.length cap) (hp : ∀ x ∈ bs, x.v.p.size ≤ 9223372036854775807) :
  Calls Tryz.prog 50 #[v] w fun e w' => e = .returned (.int .i64 (rangeErr bs)) ∧ Below w.heap.size w w' := by
 have HP := Lib.hid hp
 clear hp
 obtain ⟨a0, cap0, rfl⟩ := hlen
 by_cases hbig : 20 < bs.length
 ·have q : decide (20 < (bs.length : Int)) = true := by simp; omega
  have HF : Hid (rangeErr bs = 50) := by
   show _ = _
   unfold rangeErr rangeOk
   rw [decide_eq_false (by omega)]; rfl
  clear hv hbig
  go_enter Tryz.func50, Tryz.ntmps50
  go_wp2_with fail
  go_ret
  exact ⟨by rw [HF.out]; rfl, Below.refl _ _⟩
 have q : decide (20 < (bs.length : Int)) = false := by simp; omega
 have hs20 : bs.length ≤ 20 := by omega
 have HC := Lib.hid hv.cases.2
 clear hv hbig
 go_enter Tryz.func50, Tryz.ntmps50
 go_wp2_with fail
 go_loopw [3] (fun i wr => CkRel bs w i wr) (fun i _ => bs.length - (intOf i).toNat)
 case atStart => exact ⟨0, Nat.zero_le _, rfl, rfl, Below.refl _ _⟩
 case round =>
  obtain ⟨k, hk, rfl, hall, hb⟩ := hrel
  have HA := Lib.hid hall
  clear hall
  by_cases hlt : k < bs.length
  ·have i0 : (0 : Int) ≤ (k : Int) := by omega
   have i1 : (k : Int) < (bs.length : Int) := by omega
   obtain ⟨bx, ox, cap, hva, hn0, hbx, hc⟩ : ∃ b off cap, (Value.slice a0 bs.length cap0 = Value.slice (some ⟨b, off, none⟩) bs.length cap) ∧ 0 < bs.length ∧ b < w.heap.size ∧ ∀ j (h : j < bs.length), w.cell? ⟨b, off + j * 5, none⟩ = some (.int .i64 bs[j].op) ∧
     w.cell? ⟨b, off + j * 5 + 1, none⟩ = some (.int .i64 bs[j].v.a) ∧ w.cell? ⟨b, off + j * 5 + 2, none⟩ = some (.int .i64 bs[j].v.b) ∧ w.cell? ⟨b, off + j * 5 + 3, none⟩ = some (.int .i64 bs[j].v.c) ∧
     w.cell? ⟨b, off + j * 5 + 4, none⟩ = some (.string bs[j].v.p) := by
    rcases HC.out with ⟨a, cap, hva, he⟩ | h
    ·rw [he] at hlt; simp at hlt
    ·exact h
   have ha0 : a0 = some ⟨bx, ox, none⟩ := by injection hva
   subst ha0
   obtain ⟨g0, g1, g2, g3, g4⟩ := hc k hlt
   have c0 := (hb.cell (p := ⟨bx, ox + k * 5, none⟩) hbx).trans g0
   have c1 := (hb.cell (p := ⟨bx, ox + k * 5 + 1, none⟩) hbx).trans g1
   have c2 := (hb.cell (p := ⟨bx, ox + k * 5 + 2, none⟩) hbx).trans g2
   have c3 := (hb.cell (p := ⟨bx, ox + k * 5 + 3, none⟩) hbx).trans g3
   have c4 := (hb.cell (p := ⟨bx, ox + k * 5 + 4, none⟩) hbx).trans g4
   have hpx := HP.out _ (List.getElem_mem hlt)
   have hmem := List.getElem_mem hlt
   obtain ⟨x, hxe⟩ : ∃ x, bs[k] = x := ⟨_, rfl⟩
   rw [hxe] at c0 c1 c2 c3 c4 hpx hmem
   have HT := Lib.hid (List.take_succ_eq_append_getElem hlt)
   have HX := Lib.hid hxe
   have HM := Lib.hid hmem
   clear g0 g1 g2 g3 g4 hxe hc hva hmem
   have hopk : opOk x.op = true ↔ (1 ≤ x.op ∧ x.op ≤ 5) := by unfold opOk; simp
   by_cases ho1 : x.op < 1
   ·have q1 : decide (x.op < 1) = true := decide_eq_true ho1
    have HF : Hid (rangeErr bs = 50) := by
     refine ran_no HM.out ?_
     unfold Bnd.ok; rw [show opOk x.op = false by rw [Bool.eq_false_iff]; intro h; have := hopk.1 h; omega]; rfl
    clear ho1 hopk
    go_wp2_with fail
    go_ret
    exact ⟨by rw [HF.out]; rfl, hb⟩
   have q1 : decide (x.op < 1) = false := decide_eq_false ho1
   by_cases ho2 : 5 < x.op
   ·have q2 : decide (5 < x.op) = true := decide_eq_true ho2
    have HF : Hid (rangeErr bs = 50) := by
     refine ran_no HM.out ?_
     unfold Bnd.ok; rw [show opOk x.op = false by rw [Bool.eq_false_iff]; intro h; have := hopk.1 h; omega]; rfl
    clear ho1 ho2 hopk
    go_wp2_with fail
    go_ret
    exact ⟨by rw [HF.out]; rfl, hb⟩
   have q2 : decide (5 < x.op) = false := decide_eq_false ho2
   have HO : Hid (opOk x.op = true) := hopk.2 ⟨by omega, by omega⟩
   obtain ⟨r, hr⟩ : ∃ r, verErr x.v.a x.v.b x.v.c x.v.p.data.toList = r := ⟨_, rfl⟩
   have HR := Lib.hid hr
   clear hr ho1 ho2 hopk
   go_wp2_with fail
   refine (checkRQ_as x.v r HR.out _ hpx).mono ?_
   rintro e w2 ⟨rfl, hb2⟩
   have hb3 := below_then hb hb2
   by_cases hz : r = 0
   ·have hq : (r != 0) = false := by simpa using hz
    have HOK : Hid (x.ok = true) := by
     show _ = _
     unfold Bnd.ok V4.ok
     rw [HO.out, Bool.true_and]
     have h := HR.out
     rw [hz] at h
     unfold verErr at h
     by_cases hv : verOk x.v.a x.v.b x.v.c x.v.p.data.toList = true
     ·exact hv
     ·rw [if_neg hv] at h; cases h
    clear hz
    go_wp2_with fail
    go_roundw
    case rel =>
     refine ⟨k + 1, hlt, by go_num, ?_, hb3⟩
     rw [HT.out, List.all_append, HA.out, HX.out]; simp [HOK.out]
    case measure => simp [intOf]; omega
   ·have hq : (r != 0) = true := by simpa using hz
    have HF : Hid (rangeErr bs = 50) := by
     refine ran_no HM.out ?_
     unfold Bnd.ok V4.ok
     rw [HO.out, Bool.true_and, Bool.eq_false_iff]
     intro hv
     have h := HR.out
     unfold verErr at h
     rw [if_pos hv] at h
     exact hz h.symm
    clear hz
    go_wp2_with fail
    go_ret
    exact ⟨by rw [HF.out]; rfl, hb3⟩
  ·have q2 : decide (k < bs.length) = false := by simp; omega
   obtain rfl : k = bs.length := by omega
   have HF : Hid (rangeErr bs = 0) := by
    show _ = _
    have h := HA.out
    rw [List.take_of_length_le (Nat.le_refl _)] at h
    unfold rangeErr rangeOk
    rw [h, decide_eq_true hs20]; rfl
   go_wp2_with fail
   go_ret
   exact ⟨by rw [HF.out]; rfl, hb⟩
end Go.Proofs.YtbgimpeklblcjaaGreatDoor
namespace Go
open Go.RowKit
def restAll (l : List UInt8) : Bool := l.all restC
theorem strs_new (w : World) (ls : List (List UInt8)) (T : TypeId) (cap B n : Nat) (cs : Array Value) (hB : B = w.heap.size) (hcs : cs = (strs ls).toArray) (hn' : n = ls.length) (hn : 0 < ls.length) (hm : ls.length ≤ maxLen) :
  Strs (w.alloc (.cells cs T)) (.slice (some ⟨B, 0, none⟩) n cap) ls := by
 subst hB hcs hn'
 refine ⟨by rw [strs_length]; omega, hm, .inr ⟨w.heap.size, 0, cap, rfl, hn, by simp, fun j hj => ?_⟩⟩
 simp only [World.cell?, Below_heap_new, Nat.zero_add, Option.isSome_none, Bool.false_eq_true, if_false]
 simp
end Go
namespace Go.Proofs.YtbgimpeklblcjaaGreatDoor
open Go.RowKit
set_option maxRecDepth 100000 in
theorem rsmall_as (x : UInt8) (r : Bool) (h : smallC x = r) (w : World) : Calls Tryz.prog 76 #[.int .u8 (x.toNat : Int)] w fun e w' => e = .returned (.bool r) ∧ w' = w := by
 obtain ⟨a, ha⟩ : ∃ a, decide (97 ≤ x.toNat) = a := ⟨_, rfl⟩
 obtain ⟨b, hb⟩ : ∃ b, decide (x.toNat ≤ 122) = b := ⟨_, rfl⟩
 have HR : Hid (r = (a && b)) := by show _ = _; rw [← h, ← ha, ← hb]; rfl
 have ha' : decide ((97 : Int) ≤ (x.toNat : Int)) = a := by rw [← ha, decide_eq_decide]; omega
 have hb' : decide ((x.toNat : Int) ≤ 122) = b := by rw [← hb, decide_eq_decide]; omega
 clear h
 cases a <;> cases b
 all_goals
  go_enter Tryz.func76, Tryz.ntmps76
  go_wp2_with fail
  go_ret
  exact ⟨by rw [HR.out]; rfl, rfl⟩
set_option maxRecDepth 100000 in
theorem rgreat_as (x : UInt8) (r : Bool) (h : greatC x = r) (w : World) : Calls Tryz.prog 105 #[.int .u8 (x.toNat : Int)] w fun e w' => e = .returned (.bool r) ∧ w' = w := by
 obtain ⟨a, ha⟩ : ∃ a, decide (65 ≤ x.toNat) = a := ⟨_, rfl⟩
 obtain ⟨b, hb⟩ : ∃ b, decide (x.toNat ≤ 90) = b := ⟨_, rfl⟩
 have HR : Hid (r = (a && b)) := by show _ = _; rw [← h, ← ha, ← hb]; rfl
 have ha' : decide ((65 : Int) ≤ (x.toNat : Int)) = a := by rw [← ha, decide_eq_decide]; omega
 have hb' : decide ((x.toNat : Int) ≤ 90) = b := by rw [← hb, decide_eq_decide]; omega
 clear h
 cases a <;> cases b
 all_goals
  go_enter Tryz.func105, Tryz.ntmps105
  go_wp2_with fail
  go_ret
  exact ⟨by rw [HR.out]; rfl, rfl⟩
set_option maxRecDepth 100000 in
theorem rdigit_as (x : UInt8) (r : Bool) (h : Sem4.isDig x = r) (w : World) : Calls Tryz.prog 106 #[.int .u8 (x.toNat : Int)] w fun e w' => e = .returned (.bool r) ∧ w' = w := by
 obtain ⟨a, ha⟩ : ∃ a, decide (48 ≤ x.toNat) = a := ⟨_, rfl⟩
 obtain ⟨b, hb⟩ : ∃ b, decide (x.toNat ≤ 57) = b := ⟨_, rfl⟩
 have HR : Hid (r = (a && b)) := by show _ = _; rw [← h, ← ha, ← hb]; rfl
 have ha' : decide ((48 : Int) ≤ (x.toNat : Int)) = a := by rw [← ha, decide_eq_decide]; omega
 have hb' : decide ((x.toNat : Int) ≤ 57) = b := by rw [← hb, decide_eq_decide]; omega
 clear h
 cases a <;> cases b
 all_goals
  go_enter Tryz.func106, Tryz.ntmps106
  go_wp2_with fail
  go_ret
  exact ⟨by rw [HR.out]; rfl, rfl⟩
set_option maxRecDepth 100000 in
set_option maxHeartbeats 4000000 in
theorem rrest_any (s : ByteArray) (w : World) (hs : s.size ≤ 24) :
  Calls Tryz.prog 77 #[.string s] w fun e w' => (∃ k : Nat, e = .returned (.int .i64 (k : Int)) ∧ k ≤ s.size ∧ decide (k = s.size) = restAll s.data.toList) ∧ w' = w := by
 go_enter Tryz.func77, Tryz.ntmps77
 go_wp2_with fail
 go_loop [3] (fun i => NmRel s i) (fun i => s.size - (intOf i).toNat)
 case atStart => exact ⟨0, Nat.zero_le _, rfl, rfl⟩
 case round =>
  obtain ⟨k, hk, rfl, hall⟩ := hrel
  have HA := Lib.hid hall
  clear hall
  by_cases hlt : k < s.size
  ·have i0 : (0 : Int) ≤ (k : Int) := by omega
   have i1 : (k : Int) < (s.size : Int) := by omega
   have HT := Lib.hid (take_byte s k hlt)
   obtain ⟨y, hy⟩ : ∃ y, s[k] = y := ⟨_, rfl⟩
   have HM : Hid (y ∈ s.data.toList) := by
    show _ ∈ _
    rw [← hy]
    have : k < s.data.toList.length := by rw [← Lib.size_eq]; exact hlt
    exact List.getElem_mem this
   rw [hy] at HT
   obtain ⟨a, ha⟩ : ∃ a, smallC y = a := ⟨_, rfl⟩
   obtain ⟨b, hb⟩ : ∃ b, greatC y = b := ⟨_, rfl⟩
   obtain ⟨c, hc⟩ : ∃ c, Sem4.isDig y = c := ⟨_, rfl⟩
   obtain ⟨d, hd⟩ : ∃ d, decide (y.toNat = 95) = d := ⟨_, rfl⟩
   have HR : Hid (restC y = (a || b || c || d)) := by show _ = _; unfold restC; rw [ha, hb, hc, hd]
   have q : ((y.toNat : Int) == 95) = d := by
    rw [← hd]
    by_cases h95 : y.toNat = 95
    ·rw [h95]; decide
    ·rw [decide_eq_false h95, beq_eq_false_iff_ne]; omega
   have HSa := Lib.hid (fun w => rsmall_as y a ha w)
   have HSb := Lib.hid (fun w => rgreat_as y b hb w)
   have HSc := Lib.hid (fun w => rdigit_as y c hc w)
   clear ha hb hc hd
   cases a
   case true =>
    go_wp2_with fail
    refine (HSa.out _).mono ?_
    rintro e w1 ⟨rfl, rfl⟩
    go_wp2_with fail
    go_round
    case rel => exact ⟨k + 1, by omega, by go_num, by rw [HT.out, List.all_append, HA.out]; simp [HR.out]⟩
    case measure => simp [intOf]; omega
   cases b
   case true =>
    go_wp2_with fail
    refine (HSa.out _).mono ?_
    rintro e w1 ⟨rfl, rfl⟩
    go_wp2_with fail
    refine (HSb.out _).mono ?_
    rintro e w1 ⟨rfl, rfl⟩
    go_wp2_with fail
    go_round
    case rel => exact ⟨k + 1, by omega, by go_num, by rw [HT.out, List.all_append, HA.out]; simp [HR.out]⟩
    case measure => simp [intOf]; omega
   cases c
   case true =>
    go_wp2_with fail
    refine (HSa.out _).mono ?_
    rintro e w1 ⟨rfl, rfl⟩
    go_wp2_with fail
    refine (HSb.out _).mono ?_
    rintro e w1 ⟨rfl, rfl⟩
    go_wp2_with fail
    refine (HSc.out _).mono ?_
    rintro e w1 ⟨rfl, rfl⟩
    go_wp2_with fail
    go_round
    case rel => exact ⟨k + 1, by omega, by go_num, by rw [HT.out, List.all_append, HA.out]; simp [HR.out]⟩
    case measure => simp [intOf]; omega
   cases d
   case true =>
    go_wp2_with fail
    refine (HSa.out _).mono ?_
    rintro e w1 ⟨rfl, rfl⟩
    go_wp2_with fail
    refine (HSb.out _).mono ?_
    rintro e w1 ⟨rfl, rfl⟩
    go_wp2_with fail
    refine (HSc.out _).mono ?_
    rintro e w1 ⟨rfl, rfl⟩
    go_wp2_with fail
    go_round
    case rel => exact ⟨k + 1, by omega, by go_num, by rw [HT.out, List.all_append, HA.out]; simp [HR.out]⟩
    case measure => simp [intOf]; omega
   go_wp2_with fail
   refine (HSa.out _).mono ?_
   rintro e w1 ⟨rfl, rfl⟩
   go_wp2_with fail
   refine (HSb.out _).mono ?_
   rintro e w1 ⟨rfl, rfl⟩
   go_wp2_with fail
   refine (HSc.out _).mono ?_
   rintro e w1 ⟨rfl, rfl⟩
   go_wp2_with fail
   go_ret
   refine ⟨⟨k, rfl, hk, ?_⟩, rfl⟩
   rw [decide_eq_false (by omega)]; symm; show s.data.toList.all restC = false; rw [List.all_eq_false]; exact ⟨y, HM.out, by rw [HR.out]; decide⟩
  ·have q2 : decide (k < s.size) = false := decide_eq_false hlt
   have HF : Hid (restAll s.data.toList = true) := by
    show s.data.toList.all restC = true
    have h := HA.out
    rw [List.take_of_length_le (by rw [← Lib.size_eq]; omega)] at h
    exact h
   go_wp2_with fail
   go_ret
   exact ⟨⟨k, rfl, hk, by rw [HF.out]; exact decide_eq_true (by omega)⟩, rfl⟩
def AmRel (l : List UInt8) (ls : List (List UInt8)) (i : Value) : Prop := ∃ k : Nat, k ≤ ls.length ∧ i = .int .i64 (k : Int) ∧ ∀ x ∈ ls.take k, x ≠ l
set_option maxRecDepth 100000 in
set_option maxHeartbeats 4000000 in
theorem among_any (s : ByteArray) (v : Value) (ls : List (List UInt8)) (w : World) (hv : Strs w v ls) (hlen : ∃ a cap, v = .slice a ls.length cap) :
  Calls Tryz.prog 107 #[.string s, v] w fun e w' => e = .returned (.bool (decide (s.data.toList ∈ ls))) ∧ w' = w := by
 obtain ⟨a0, cap0, rfl⟩ := hlen
 have HC := Lib.hid hv.cases.2
 have hml := hv.cases.1
 unfold maxLen at hml
 clear hv
 go_enter Tryz.func107, Tryz.ntmps107
 go_wp2_with fail
 go_loop [5] (fun i => AmRel s.data.toList ls i) (fun i => ls.length - (intOf i).toNat)
 case atStart => exact ⟨0, Nat.zero_le _, rfl, fun x hx => by cases hx⟩
 case round =>
  obtain ⟨k, hk, rfl, hno⟩ := hrel
  have HNo := Lib.hid hno
  clear hno
  by_cases hlt : k < ls.length
  ·have i0 : (0 : Int) ≤ (k : Int) := by omega
   have i1 : (k : Int) < (ls.length : Int) := by omega
   obtain ⟨bx, ox, cap, hva, hn0, hbx, hc⟩ : ∃ b off cap, (Value.slice a0 ls.length cap0 = Value.slice (some ⟨b, off, none⟩) ls.length cap) ∧ 0 < ls.length ∧ b < w.heap.size ∧ ∀ j (h : j < ls.length), w.cell? ⟨b, off + j, none⟩ = some (.string (S ls[j])) := by
    rcases HC.out with ⟨a, cap, hva, he⟩ | h
    ·rw [he] at hlt; simp at hlt
    ·exact h
   have ha0 : a0 = some ⟨bx, ox, none⟩ := by injection hva
   subst ha0
   have c0 := hc k hlt
   have HTk := Lib.hid (List.take_succ_eq_append_getElem hlt)
   have HM := Lib.hid (List.getElem_mem hlt)
   obtain ⟨t, ht⟩ : ∃ t, ls[k] = t := ⟨_, rfl⟩
   rw [ht] at c0 HTk HM
   obtain ⟨A, hA⟩ : ∃ A, S t = A := ⟨_, rfl⟩
   rw [hA] at c0
   have HAt : Hid (A.data.toList = t) := by show _ = _; rw [← hA]; rfl
   clear hc hva ht hA
   by_cases he : s.toList = A.toList
   ·have t1 : (s.toList == A.toList) = true := by simpa using he
    have HF : Hid (decide (s.data.toList ∈ ls) = true) := by
     show _ = _
     rw [Lib.toList_data, Lib.toList_data, HAt.out] at he
     rw [he]; exact decide_eq_true HM.out
    clear he
    go_wp2_with fail
    go_ret
    exact ⟨by rw [HF.out]; rfl, rfl⟩
   ·have t1 : (s.toList == A.toList) = false := by simpa using he
    have HF : Hid (t ≠ s.data.toList) := by
     intro e
     apply he
     rw [Lib.toList_data, Lib.toList_data, HAt.out, e]
    clear he
    go_wp2_with fail
    go_round
    case rel =>
     refine ⟨k + 1, hlt, by go_num, ?_⟩
     rw [HTk.out]
     intro x hx
     rcases List.mem_append.1 hx with h | h
     ·exact HNo.out x h
     ·simp at h; subst h; exact HF.out
    case measure => simp [intOf]; omega
  ·have q2 : decide (k < ls.length) = false := decide_eq_false hlt
   have HF : Hid (decide (s.data.toList ∈ ls) = false) := by
    show _ = _
    refine decide_eq_false (fun h => ?_)
    have h2 := HNo.out
    rw [List.take_of_length_le (by omega)] at h2
    exact h2 _ h rfl
   clear hlt
   go_wp2_with fail
   go_ret
   exact ⟨by rw [HF.out]; rfl, rfl⟩
set_option maxRecDepth 100000 in
theorem rword_any (s : ByteArray) (w : World) : Calls Tryz.prog 78 #[.string s] w fun e w' => e = .returned (.bool (keptB s.data.toList)) ∧ Below w.heap.size w w' := by
 go_enter Tryz.func78, Tryz.ntmps78
 go_wp2_with fail
 refine (among_any s _ keptL _ (strs_new w keptL _ _ _ _ _ rfl rfl rfl (by decide) (by unfold maxLen; decide)) ⟨_, _, rfl⟩).mono ?_
 rintro e w1 ⟨rfl, rfl⟩
 go_wp2_with fail
 go_ret
 exact ⟨rfl, (Below.refl _ _).alloc (Nat.le_refl _) _⟩
set_option maxRecDepth 100000 in
set_option maxHeartbeats 4000000 in
theorem rname_any (s : ByteArray) (w : World) : Calls Tryz.prog 43 #[.string s] w fun e w' => e = .returned (.bool (nameOk s.data.toList)) ∧ Below w.heap.size w w' := by
 by_cases h0 : s.size = 0
 ·have hnil : s.data.toList = [] := by rw [Lib.size_eq] at h0; exact List.eq_nil_of_length_eq_zero h0
  have hem : s.toList.isEmpty = true := by rw [Lib.toList_data, hnil]; rfl
  have HF : Hid (nameOk s.data.toList = false) := by show _ = _; rw [hnil]; rfl
  clear h0 hnil
  go_enter Tryz.func43, Tryz.ntmps43
  go_wp2_with fail
  go_ret
  exact ⟨by rw [HF.out]; rfl, Below.refl _ _⟩
 have hsz : 0 < s.size := by omega
 have hbh : s.data.toList = s[0] :: s.data.toList.drop 1 := by
  have hl : 0 < s.data.toList.length := by rw [← Lib.size_eq]; exact hsz
  have := List.drop_eq_getElem_cons hl
  rw [List.drop_zero] at this
  exact this
 have hem : s.toList.isEmpty = false := by rw [Lib.toList_data, hbh]; rfl
 have hsi : (0 : Int) < (s.size : Int) := by omega
 by_cases h24 : 24 < s.size
 ·have q : decide ((s.size : Int) ≤ 24) = false := by simp; omega
  have q' : decide (s.size ≤ 24) = false := decide_eq_false (by omega)
  have HF : Hid (nameOk s.data.toList = false) := by show _ = _; unfold nameOk; rw [← Lib.size_eq, decide_eq_false (by omega)]; rfl
  clear h0 h24 hbh
  go_enter Tryz.func43, Tryz.ntmps43
  go_wp2_with fail
  go_ret
  exact ⟨by rw [HF.out]; rfl, Below.refl _ _⟩
 have q : decide ((s.size : Int) ≤ 24) = true := by simp; omega
 have q' : decide (s.size ≤ 24) = true := decide_eq_true (by omega)
 have hs24 : s.size ≤ 24 := by omega
 have HLn : Hid (decide (s.data.toList.length ≤ 24) = true) := by show _ = _; rw [← Lib.size_eq]; exact decide_eq_true hs24
 obtain ⟨x, hx⟩ : ∃ x, s[0] = x := ⟨_, rfl⟩
 rw [hx] at hbh
 obtain ⟨r, hr⟩ : ∃ r, smallC x = r := ⟨_, rfl⟩
 have HH : Hid (headIs smallC s.data.toList = r) := by show _ = _; rw [hbh]; exact hr
 have HSm := Lib.hid (fun w => rsmall_as x r hr w)
 clear h0 h24 hbh hr
 cases r
 ·have HF : Hid (nameOk s.data.toList = false) := by show _ = _; unfold nameOk; rw [HH.out, Bool.and_false, Bool.false_and, Bool.false_and]
  go_enter Tryz.func43, Tryz.ntmps43
  go_wp2_with fail
  refine (HSm.out _).mono ?_
  rintro e w1 ⟨rfl, rfl⟩
  go_wp2_with fail
  go_ret
  exact ⟨by rw [HF.out]; rfl, Below.refl _ _⟩
 obtain ⟨a, ha⟩ : ∃ a, restAll s.data.toList = a := ⟨_, rfl⟩
 obtain ⟨k0, hk0⟩ : ∃ k, keptB s.data.toList = k := ⟨_, rfl⟩
 have HN : Hid (nameOk s.data.toList = (a && !k0)) := by show _ = _; unfold nameOk; rw [HLn.out, HH.out, hk0, show s.data.toList.all restC = a from ha]; rfl
 have HWd := rword_any s
 rw [hk0] at HWd
 have HWd := Lib.hid HWd
 have HRs := rrest_any s
 rw [ha] at HRs
 have HRs := Lib.hid HRs
 clear ha hk0
 go_enter Tryz.func43, Tryz.ntmps43
 go_wp2_with fail
 refine (HSm.out _).mono ?_
 rintro e w1 ⟨rfl, rfl⟩
 go_wp2_with fail
 refine (HRs.out _ hs24).mono ?_
 rintro e w1 ⟨⟨k, rfl, hk, hd⟩, rfl⟩
 have hd2 : ((k : Int) == (s.size : Int)) = a := by
  rw [← hd]
  by_cases h : k = s.size
  ·rw [decide_eq_true h, h]; simp
  ·rw [decide_eq_false h, beq_eq_false_iff_ne]; omega
 clear hk
 cases a
 ·go_wp2_with fail
  go_ret
  exact ⟨by rw [HN.out]; rfl, Below.refl _ _⟩
 ·go_wp2_with fail
  refine (HWd.out _).mono ?_
  rintro e w2 ⟨rfl, hb2⟩
  go_wp2_with fail
  go_ret
  exact ⟨by rw [HN.out]; rfl, hb2⟩
theorem rname_as (s : ByteArray) (r : Bool) (h : nameOk s.data.toList = r) (w : World) : Calls Tryz.prog 43 #[.string s] w fun e w' => e = .returned (.bool r) ∧ Below w.heap.size w w' := by
 subst h; exact rname_any s w
end Go.Proofs.YtbgimpeklblcjaaGreatDoor
namespace Go
open Go.RowKit
end Go
namespace Go.Proofs.YtbgimpeklblcjaaGreatDoor
open Go.RowKit
theorem rrangeC_as (v : Value) (bs : List Bnd) (r : Int) (h : rangeErr bs = r) (w : World) (hv : Bnds w v bs) (hlen : ∃ a cap, v = .slice a bs.length cap) (hp : ∀ x ∈ bs, x.v.p.size ≤ 300) :
  Calls Tryz.prog 50 #[v] w fun e w' => e = .returned (.int .i64 r) ∧ Below w.heap.size w w' := by
 subst h; exact rrcheck_any v bs w hv hlen (fun x hx => by have := hp x hx; omega)
set_option maxRecDepth 100000 in
set_option maxHeartbeats 4000000 in
theorem rchCheck_any (v : Value) (needs : List (Want × Value)) (w : World) (hn : Wants w v needs) (hnd : ∀ x ∈ needs, ∀ b ∈ x.1.bs, b.v.p.size ≤ 300) :
  Calls Tryz.prog 23 #[v] w fun e w' => e = .returned (.int .i64 (needErr needs)) ∧ Below w.heap.size w w' := by
 obtain ⟨hmx, a0, cap0, rfl⟩ := hn.len
 have hmx2 : needs.length ≤ 9223372036854775807 := Nat.le_trans hmx (by decide)
 have HN := Lib.hid hn
 have HNd := Lib.hid hnd
 clear hn hnd hmx
 go_enter Tryz.func23, Tryz.ntmps23
 go_wp2_with fail
 go_loopw [3] (fun i wr => NeRel needs w i wr) (fun i _ => needs.length - (intOf i).toNat)
 case atStart => exact ⟨0, Nat.zero_le _, rfl, fun j _ h => absurd h (Nat.not_lt_zero _), Below.refl _ _⟩
 case round =>
  obtain ⟨k, hk, rfl, hall, hb⟩ := hrel
  have HA := Lib.hid hall
  clear hall
  by_cases hlt : k < needs.length
  ·have j0 : (0 : Int) ≤ (k : Int) := by omega
   have j1 : (k : Int) < (needs.length : Int) := by omega
   obtain ⟨bn, on, rfl, hbn, g0, g1⟩ := HN.out.at' hb hlt
   have hmem := List.getElem_mem hlt
   obtain ⟨⟨nd, rv⟩, hne⟩ : ∃ x, needs[k] = x := ⟨_, rfl⟩
   rw [hne] at g0 g1 hmem
   obtain ⟨hbs, ra, rcap, hrv⟩ := HN.out.2 _ hmem
   simp only at g0 g1 hbs hrv
   subst hrv
   have HND := Lib.hid (HNd.out _ hmem)
   have HX := Lib.hid hne
   have HBs := Lib.hid hbs
   obtain ⟨ok, hok⟩ : ∃ ok, nameOk (S nd.name).data.toList = ok := ⟨_, rfl⟩
   have HK := Lib.hid (fun W => rname_as (S nd.name) ok hok W)
   have hok2 : nameOk nd.name = ok := by rw [← hok, S_data]
   obtain ⟨r, hr⟩ : ∃ r, rangeErr nd.bs = r := ⟨_, rfl⟩
   have HC := Lib.hid (fun W (h : Below w.heap.size w W) => rrangeC_as (.slice ra nd.bs.length rcap) nd.bs r hr W (HBs.out.below h (Nat.le_refl _)) ⟨_, _, rfl⟩ HND.out)
   have HV : Hid (wantErr (nd, .slice ra nd.bs.length rcap) = if ok = true then r else 110) := by
    show _ = _
    unfold wantErr; rw [hok2, hr]
   have hro := rangeErr_or nd.bs
   rw [hr] at hro
   clear hne hmem hbs hok hok2 hr
   cases ok
   ·have HF : Hid (needErr needs = 110) := by
     show _ = _
     rw [needErr_at needs k hlt HA.out (by rw [HX.out, HV.out]; simp), HX.out, HV.out]; rfl
    go_wp2_with fail
    refine (HK.out _).mono ?_
    rintro e w1 ⟨rfl, hb1⟩
    have hb2 := below_then hb hb1
    clear g0 g1 hb1
    go_wp2_with fail
    go_ret
    exact ⟨by rw [HF.out]; rfl, hb2⟩
   ·rcases hro with rfl | rfl
    ·have HN0 := Lib.hid (NeRel.next hlt HX.out HA.out (by rw [HV.out]; rfl))
     go_wp2_with fail
     refine (HK.out _).mono ?_
     rintro e w1 ⟨rfl, hb1⟩
     have hb2 := below_then hb hb1
     have e1 := cell_on g1 hb1
     clear g0 g1 hb1
     go_wp2_with fail
     refine (HC.out _ hb2).mono ?_
     rintro e w2 ⟨rfl, hb3⟩
     have hb4 := below_then hb2 hb3
     clear e1 hb3
     go_wp2_with fail
     go_roundw
     case rel => exact ⟨k + 1, hlt, by go_num, HN0.out, hb4⟩
     case measure => simp [intOf]; omega
    ·have HF : Hid (needErr needs = 50) := by
      show _ = _
      rw [needErr_at needs k hlt HA.out (by rw [HX.out, HV.out]; decide), HX.out, HV.out]; rfl
     go_wp2_with fail
     refine (HK.out _).mono ?_
     rintro e w1 ⟨rfl, hb1⟩
     have hb2 := below_then hb hb1
     have e1 := cell_on g1 hb1
     clear g0 g1 hb1
     go_wp2_with fail
     refine (HC.out _ hb2).mono ?_
     rintro e w2 ⟨rfl, hb3⟩
     have hb4 := below_then hb2 hb3
     clear e1 hb3
     go_wp2_with fail
     go_ret
     exact ⟨by rw [HF.out]; rfl, hb4⟩
  ·have q5 : decide (k < needs.length) = false := decide_eq_false hlt
   have HF : Hid (needErr needs = 0) := needErr_none _ (fun j hj => HA.out j hj (by omega))
   clear hlt
   go_wp2_with fail
   go_ret
   exact ⟨by rw [HF.out]; rfl, hb⟩
end Go.Proofs.YtbgimpeklblcjaaGreatDoor
