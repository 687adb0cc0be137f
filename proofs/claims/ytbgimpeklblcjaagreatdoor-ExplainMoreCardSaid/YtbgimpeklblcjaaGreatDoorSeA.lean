/- The program's versions: digits, part: walks. The program's versions: Check: a walk. The program's versions: Parse: a walk. Locks: the program's may: a walk. -/
import Derived.Test.YtbgimpeklblcjaaGreatDoorSemLib
import Derived.Test.YtbgimpeklblcjaaGreatDoorCells
import Derived.Test.YtbgimpeklblcjaaGreatDoorCmdMore
import Derived.Test.YtbgimpeklblcjaaGreatDoorLex1
namespace Go.Proofs.YtbgimpeklblcjaaGreatDoor
open Go.RowKit
set_option maxRecDepth 100000 in
set_option maxHeartbeats 1000000 in
theorem digits_any (s : ByteArray) (b : Bool) (h : Sem4.digits s.data.toList = b) (w : World) (hs : s.size ≤ 9223372036854775807) :
  Calls Tryz.prog 93 #[.string s] w fun e w' => e = .returned (.bool b) ∧ Below w.heap.size w w' := by
 have H : Hid (Sem4.digits s.data.toList = (!s.toList.isEmpty && s.data.toList.all Sem4.isDig)) := by
  show _ = _
  unfold Sem4.digits; rw [Lib.toList_data]
 have HB := Lib.hid h
 clear h
 cases hem : s.toList.isEmpty
 ·cases hal : s.data.toList.all Sem4.isDig
  all_goals
   have HE : Hid (b = _) := HB.out.symm.trans (H.out.trans (by rw [hem, hal]))
   have HA := Lib.hid hal
   clear hal
   go_enter Tryz.func93, Tryz.ntmps93
   go_wp2_with fail
   refine (trim_any s _ hs).mono ?_
   rintro e w1 ⟨t, rfl, ht, hb⟩
   rw [HA.out] at ht
   go_wp2_with fail
   go_ret
   exact ⟨by rw [HE.out]; rfl, hb⟩
 ·have HE : Hid (b = _) := HB.out.symm.trans (H.out.trans (by rw [hem]))
  go_enter Tryz.func93, Tryz.ntmps93
  go_wp2_with fail
  go_ret
  exact ⟨by rw [HE.out]; rfl, Below.refl _ _⟩
theorem head_byte (s : ByteArray) (h : 0 < s.size) : s.data.toList.head? = some s[0] := by
 rw [List.head?_eq_getElem?, List.getElem?_eq_getElem (by rw [← Lib.size_eq]; exact h)]; rfl
theorem partCh_iff (x : UInt8) : Sem4.partCh x = true ↔ (48 ≤ x.toNat ∧ x.toNat ≤ 57) ∨ (97 ≤ x.toNat ∧ x.toNat ≤ 122) ∨ (65 ≤ x.toNat ∧ x.toNat ≤ 90) ∨ x.toNat = 45 := by
 simp [Sem4.partCh, Sem4.isDig]; omega
/-- what part asks ahead of its loop -/
def partHead (l : List UInt8) : Bool := !l.isEmpty && (!Sem4.digits l || decide (l = [48]) || decide (l.head? ≠ some 48))
theorem part_head (l : List UInt8) : Sem4.part l = (partHead l && l.all Sem4.partCh) := by
 unfold Sem4.part partHead
 cases l.isEmpty <;> cases l.all Sem4.partCh <;> simp
set_option maxRecDepth 100000 in
set_option maxHeartbeats 2000000 in
theorem part_any (s : ByteArray) (w : World) (hs : s.size ≤ 9223372036854775807) :
  Calls Tryz.prog 57 #[.string s] w fun e w' => e = .returned (.bool (Sem4.part s.data.toList)) ∧ Below w.heap.size w w' := by
 cases hh : partHead s.data.toList
 ·have HE : Hid (Sem4.part s.data.toList = false) := by show _ = _; rw [part_head, hh]; rfl
  cases hem : s.toList.isEmpty
  ·have hne : s.data.toList ≠ [] := by rw [Lib.toList_data] at hem; intro e; rw [e] at hem; cases hem
   have hsz : 0 < s.size := by rw [Lib.size_eq]; exact List.length_pos_iff.2 hne
   have hsi : (0 : Int) < (s.size : Int) := by omega
   have hd : Sem4.digits s.data.toList = true := by
    unfold partHead at hh
    rw [Lib.toList_data] at hem
    cases hd : Sem4.digits s.data.toList <;> simp_all
   have h48 : s.data.toList ≠ [48] := by
    intro e; rw [e] at hh; revert hh; decide
   have q1 : (s.toList == [48]) = false := by rw [Lib.toList_data]; simpa using h48
   obtain ⟨x0, hx0⟩ : ∃ x0, s[0] = x0 := ⟨_, rfl⟩
   have hx : x0.toNat = 48 := by
    have h1 := head_byte s hsz
    rw [hx0] at h1
    unfold partHead at hh
    rw [Lib.toList_data] at hem
    rw [hem, hd, h1] at hh
    have : x0 = 48 := by simpa [h48] using hh
    rw [this]; rfl
   have q2 : ((x0.toNat : Int) == 48) = true := by simp; omega
   have HD := Lib.hid hd
   clear hd h48 hx hne hh
   go_enter Tryz.func57, Tryz.ntmps57
   go_wp2_with fail
   refine (digits_any s true HD.out _ (by omega)).mono ?_
   rintro e w1 ⟨rfl, hb⟩
   go_wp2_with fail
   go_ret
   exact ⟨by rw [HE.out]; rfl, hb⟩
  ·clear hh
   go_enter Tryz.func57, Tryz.ntmps57
   go_wp2_with fail
   go_ret
   exact ⟨by rw [HE.out]; rfl, Below.refl _ _⟩
 ·have HE : Hid (Sem4.part s.data.toList = s.data.toList.all Sem4.partCh) := by show _ = _; rw [part_head, hh]; rfl
  have hne : s.data.toList ≠ [] := by intro e; rw [e] at hh; revert hh; decide
  have hem : s.toList.isEmpty = false := by
   rw [Lib.toList_data]
   cases h : s.data.toList with
   | nil => exact absurd h hne
   | cons _ _ => rfl
  have hsz : 0 < s.size := by rw [Lib.size_eq]; exact List.length_pos_iff.2 hne
  have hsi : (0 : Int) < (s.size : Int) := by omega
  obtain ⟨x0, hx0⟩ : ∃ x0, s[0] = x0 := ⟨_, rfl⟩
  have h1 := head_byte s hsz
  rw [hx0] at h1
  have hcase : Sem4.digits s.data.toList = false ∨ (Sem4.digits s.data.toList = true ∧ ((x0.toNat : Int) == 48) = false) ∨ (Sem4.digits s.data.toList = true ∧ ((x0.toNat : Int) == 48) = true ∧ (s.toList == [48]) = true) := by
   cases hd : Sem4.digits s.data.toList
   ·exact .inl rfl
   ·cases hq : ((x0.toNat : Int) == 48)
    ·exact .inr (.inl ⟨rfl, rfl⟩)
    ·refine .inr (.inr ⟨rfl, rfl, ?_⟩)
     have hx : x0 = 48 := by apply UInt8.toNat_inj.1; have := eq_of_beq hq; show x0.toNat = 48; omega
     unfold partHead at hh
     rw [hd, h1, hx] at hh
     rw [Lib.toList_data]
     simp at hh ⊢
     exact hh.2
  clear hh hne h1
  rcases hcase with hd | ⟨hd, q1⟩ | ⟨hd, q1, q2⟩
  all_goals
   have HD := Lib.hid hd
   clear hd
   go_enter Tryz.func57, Tryz.ntmps57
   go_wp2_with fail
   refine (digits_any s _ HD.out _ (by omega)).mono ?_
   rintro e w1 ⟨rfl, hb⟩
   go_wp2_with fail
   go_loop [3, 4, 22] (fun _ _ i => PartRel s i) (fun _ _ i => s.size - (intOf i).toNat)
   case atStart => exact ⟨0, Nat.zero_le _, rfl, rfl⟩
   case round =>
    obtain ⟨k, hk, rfl, hall⟩ := hrel
    have HA := Lib.hid hall
    clear hall
    by_cases hlt : k < s.size
    ·have HT := Lib.hid (take_byte s k hlt)
     obtain ⟨x, hx⟩ : ∃ x, s[k] = x := ⟨_, rfl⟩
     rw [hx] at HT
     have HX : Hid (Sem4.partCh x = false → Sem4.part s.data.toList = false) := fun h => part_no s k hlt x hx h
     have HI := Lib.hid (partCh_iff x)
     have hx0 : (0 : Int) ≤ (x.toNat : Int) := by omega
     rcases (show ((x.toNat : Int) < 45) ∨ ((x.toNat : Int) ≤ 45 ∧ 45 ≤ (x.toNat : Int)) ∨ (46 ≤ (x.toNat : Int) ∧ (x.toNat : Int) < 48) ∨ (48 ≤ (x.toNat : Int) ∧ (x.toNat : Int) ≤ 57) ∨ (58 ≤ (x.toNat : Int) ∧ (x.toNat : Int) < 65) ∨ (65 ≤ (x.toNat : Int) ∧ (x.toNat : Int) ≤ 90) ∨ (91 ≤ (x.toNat : Int) ∧ (x.toNat : Int) < 97) ∨ (97 ≤ (x.toNat : Int) ∧ (x.toNat : Int) ≤ 122) ∨ (123 ≤ (x.toNat : Int)) by omega) with hc | ⟨hc, hc'⟩ | ⟨hc, hc'⟩ | ⟨hc, hc'⟩ | ⟨hc, hc'⟩ | ⟨hc, hc'⟩ | ⟨hc, hc'⟩ | ⟨hc, hc'⟩ | hc
     all_goals
      first
       | have q45 : ((x.toNat : Int) == 45) = true := by simp; omega
       | have q45 : ((x.toNat : Int) == 45) = false := by simp; omega
      first
       | have q57 : decide ((x.toNat : Int) ≤ 57) = true := by simp; omega
       | have q57 : decide ((x.toNat : Int) ≤ 57) = false := by simp; omega
      first
       | have q90 : decide ((x.toNat : Int) ≤ 90) = true := by simp; omega
       | have q90 : decide ((x.toNat : Int) ≤ 90) = false := by simp; omega
      first
       | have q122 : decide ((x.toNat : Int) ≤ 122) = true := by simp; omega
       | have q122 : decide ((x.toNat : Int) ≤ 122) = false := by simp; omega
      first
       | have q48 : decide (48 ≤ (x.toNat : Int)) = true := by simp; omega
       | have q48 : decide (48 ≤ (x.toNat : Int)) = false := by simp; omega
      first
       | have q65 : decide (65 ≤ (x.toNat : Int)) = true := by simp; omega
       | have q65 : decide (65 ≤ (x.toNat : Int)) = false := by simp; omega
      first
       | have q97 : decide (97 ≤ (x.toNat : Int)) = true := by simp; omega
       | have q97 : decide (97 ≤ (x.toNat : Int)) = false := by simp; omega
      first
       | have HP : Hid (Sem4.partCh x = true) := HI.out.2 (by omega)
       | have HP : Hid (Sem4.part s.data.toList = false) := HX.out (by rw [Bool.eq_false_iff]; intro h; have := HI.out.1 h; omega)
      clear hc
      go_wp2_with fail
      first
       | (go_round; (case rel => exact ⟨k + 1, by omega, by go_num, by rw [HT.out, List.all_append, HA.out]; simp [HP.out]⟩); (case measure => simp [intOf]; omega))
       | (go_ret; exact ⟨by rw [HP.out]; rfl, hb⟩)
    ·have q : decide ((k : Int) < (s.size : Int)) = false := by simp; omega
     obtain rfl : k = s.size := by omega
     have HF : Hid (Sem4.part s.data.toList = true) := by
      show _ = _
      rw [HE.out]
      have := HA.out
      rwa [List.take_of_length_le (by rw [← Lib.size_eq]; exact Nat.le_refl _)] at this
     go_wp2_with fail
     go_ret
     exact ⟨by rw [HF.out]; rfl, hb⟩
end Go.Proofs.YtbgimpeklblcjaaGreatDoor

namespace Go.Proofs.YtbgimpeklblcjaaGreatDoor
open Go.RowKit
theorem partP_as (s : ByteArray) (b : Bool) (h : Sem4.part s.data.toList = b) (w : World) (hs : s.size ≤ 9223372036854775807) :
  Calls Tryz.prog 57 #[.string s] w fun e w' => e = .returned (.bool b) ∧ Below w.heap.size w w' := by
 subst h; exact part_any s w hs
def NRel (a b c : Int) (i : Value) : Prop := i = .int .i64 0 ∨ (i = .int .i64 1 ∧ numOk a = true) ∨ (i = .int .i64 2 ∧ numOk a = true ∧ numOk b = true) ∨ (i = .int .i64 3 ∧ numOk a = true ∧ numOk b = true ∧ numOk c = true)
def ChkRelW (ls : List (List UInt8)) (w : World) (i : Value) (wr : World) : Prop := ∃ k : Nat, k ≤ ls.length ∧ i = .int .i64 (k : Int) ∧ (ls.take k).all Sem4.part = true ∧ Below w.heap.size w wr
theorem numOk_cases (n : Int) : (numOk n = true ∧ 0 ≤ n ∧ n ≤ 999999) ∨ (numOk n = false ∧ n < 0) ∨ (numOk n = false ∧ 0 ≤ n ∧ 999999 < n) := by
 unfold numOk
 by_cases h : 0 ≤ n <;> by_cases h' : n ≤ 999999 <;> simp [h, h'] <;> omega
theorem verErr_num {a b c : Int} (p : List UInt8) (h : numOk a = false ∨ numOk b = false ∨ numOk c = false) : verErr a b c p = 40 := by
 unfold verErr verOk
 rcases h with h | h | h <;> rw [h] <;> simp
set_option maxRecDepth 100000 in
set_option maxHeartbeats 2000000 in
theorem check_any (a b c : Int) (p : ByteArray) (w : World) (hE : Env w) (hs : p.size ≤ 9223372036854775807) :
  Calls Tryz.prog 27 #[.agg #[.int .i64 a, .int .i64 b, .int .i64 c, .string p]] w fun e w' => e = .returned (.int .i64 (verErr a b c p.data.toList)) ∧ Below w.heap.size w w' := by
 have HEnv := Lib.hid hE
 clear hE
 have hW := ((Below.refl w.heap.size w).alloc (Nat.le_refl _) (.cells #[.int .i64 a, .int .i64 b, .int .i64 c, .string p] 41)).alloc (by simp) (.cells #[.int .i64 a, .int .i64 b, .int .i64 c] 3)
 go_enter Tryz.func27, Tryz.ntmps27
 go_wp2_with fail
 go_loop [4, 15] (fun _ i => NRel a b c i) (fun _ i => 3 - (intOf i).toNat)
 case atStart => exact .inl rfl
 case round =>
  rcases hrel with rfl | ⟨rfl, ha⟩ | ⟨rfl, ha, hb⟩ | ⟨rfl, ha, hb, hc⟩
  ·rcases numOk_cases a with ⟨h, h0, h1⟩ | ⟨h, h0⟩ | ⟨h, h0, h1⟩
   ·have H := Lib.hid h
    clear h
    go_wp2_with fail
    go_round
    case rel => exact .inr (.inl ⟨rfl, H.out⟩)
    case measure => simp [intOf]
   all_goals
    have HE := Lib.hid (verErr_num (a := a) (b := b) (c := c) p.data.toList (.inl h))
    clear h
    go_wp2_with fail
    go_ret
    exact ⟨by rw [HE.out]; rfl, hW⟩
  ·have HA := Lib.hid ha
   clear ha
   rcases numOk_cases b with ⟨h, h0, h1⟩ | ⟨h, h0⟩ | ⟨h, h0, h1⟩
   ·have H := Lib.hid h
    clear h
    go_wp2_with fail
    go_round
    case rel => exact .inr (.inr (.inl ⟨rfl, HA.out, H.out⟩))
    case measure => simp [intOf]
   all_goals
    have HE := Lib.hid (verErr_num (a := a) (b := b) (c := c) p.data.toList (.inr (.inl h)))
    clear h
    go_wp2_with fail
    go_ret
    exact ⟨by rw [HE.out]; rfl, hW⟩
  ·have HA := Lib.hid ha
   have HB := Lib.hid hb
   clear ha hb
   rcases numOk_cases c with ⟨h, h0, h1⟩ | ⟨h, h0⟩ | ⟨h, h0, h1⟩
   ·have H := Lib.hid h
    clear h
    go_wp2_with fail
    go_round
    case rel => exact .inr (.inr (.inr ⟨rfl, HA.out, HB.out, H.out⟩))
    case measure => simp [intOf]
   all_goals
    have HE := Lib.hid (verErr_num (a := a) (b := b) (c := c) p.data.toList (.inr (.inr h)))
    clear h
    go_wp2_with fail
    go_ret
    exact ⟨by rw [HE.out]; rfl, hW⟩
  ·have HV : Hid (verErr a b c p.data.toList = if decide (p.size ≤ 24) && preOk p.data.toList then 0 else 40) := by
    show _ = _
    unfold verErr verOk
    rw [ha, hb, hc, ← Lib.size_eq]; rfl
   clear ha hb hc
   by_cases h6 : 24 < p.size
   ·have q6 : decide ((24 : Int) < (p.size : Int)) = true := by simp; omega
    have HE : Hid (verErr a b c p.data.toList = 40) := by
     show _ = _
     rw [HV.out, if_neg (by simp; omega)]
    clear h6
    go_wp2_with fail
    go_ret
    exact ⟨by rw [HE.out]; rfl, hW⟩
   have q6 : decide ((24 : Int) < (p.size : Int)) = false := by simp; omega
   have hps : p.size ≤ 24 := by omega
   have HV1 : Hid (verErr a b c p.data.toList = if preOk p.data.toList then 0 else 40) := by
    show _ = _
    rw [HV.out, decide_eq_true hps]; rfl
   clear h6
   cases hem : p.toList.isEmpty
   case true =>
    have HE : Hid (verErr a b c p.data.toList = 0) := by
     show _ = _
     rw [HV1.out, ← Lib.toList_data]; unfold preOk; rw [hem]; rfl
    go_wp2_with fail
    go_ret
    exact ⟨by rw [HE.out]; rfl, hW⟩
   obtain ⟨ls, hls⟩ : ∃ ls, Sem4.dots p.data.toList = ls := ⟨_, rfl⟩
   have hln : 0 < ls.length := by rw [← hls]; exact List.length_pos_iff.2 (Sem4.dots_ne _)
   have hlen : ls.length ≤ 25 := by
    have := dots_len p.data.toList
    rw [hls, ← Lib.size_eq] at this; omega
   have HSZ : Hid (∀ l ∈ ls, l.length ≤ 24) := by
    intro l hl
    rw [← hls] at hl
    have := dots_part_size _ l hl
    rw [← Lib.size_eq] at this; omega
   have HV2 : Hid (verErr a b c p.data.toList = if ls.all Sem4.part then 0 else 40) := by
    show _ = _
    rw [HV1.out]; unfold preOk
    rw [← Lib.toList_data] at hls ⊢
    rw [hem, hls]; rfl
   have HLS := Lib.hid hls
   clear hls HV HV1
   go_wp2_with fail
   refine (split_any p _ (HEnv.out.below hW) (by omega)).mono ?_
   rintro e w2 ⟨v, rfl, hv, hb2⟩
   rw [HLS.out] at hv
   obtain ⟨bx, ox, capx, rfl, hbx, hcx⟩ := hv.full hln
   have HCX := Lib.hid hcx
   have hbw := below_then hW hb2
   clear hv hcx hb2
   go_wp2_with fail
   go_loopw [6, 37] (fun _ i wr => ChkRelW ls w2 i wr) (fun _ i _ => ls.length - (intOf i).toNat)
   case atStart => exact ⟨0, Nat.zero_le _, rfl, rfl, Below.refl _ _⟩
   case round =>
    obtain ⟨k, hk, rfl, hall, hbr⟩ := hrel
    have HA := Lib.hid hall
    clear hall
    by_cases hlt : k < ls.length
    ·have hc : wr.cell? ⟨bx, ox + k, none⟩ = some (.string (S ls[k])) := (hbr.cell (p := ⟨bx, ox + k, none⟩) hbx).trans (HCX.out k hlt)
     have hki : (k : Int) < (ls.length : Int) := by omega
     have hsk : (S ls[k]).size ≤ 9223372036854775807 := by
      rw [S_size]; have := HSZ.out _ (List.getElem_mem hlt); omega
     cases hp : Sem4.part ls[k]
     ·have HP : Hid (Sem4.part (S ls[k]).data.toList = false) := hp
      have HE : Hid (verErr a b c p.data.toList = 40) := by
       show _ = _
       rw [HV2.out, if_neg]
       intro h
       have := List.all_eq_true.1 h _ (List.getElem_mem hlt)
       rw [hp] at this; cases this
      clear hp
      go_wp2_with fail
      refine (partP_as _ false HP.out _ hsk).mono ?_
      rintro e w3 ⟨rfl, hb3⟩
      go_wp2_with fail
      go_ret
      exact ⟨by rw [HE.out]; rfl, below_then hbw (below_then hbr hb3)⟩
     ·have HP : Hid (Sem4.part (S ls[k]).data.toList = true) := hp
      clear hp
      go_wp2_with fail
      refine (partP_as _ true HP.out _ hsk).mono ?_
      rintro e w3 ⟨rfl, hb3⟩
      go_wp2_with fail
      go_roundw
      case rel => exact ⟨k + 1, by omega, by go_num, by rw [List.take_succ_eq_append_getElem hlt, List.all_append, HA.out]; simpa [S_data] using HP.out, below_then hbr hb3⟩
      case measure => simp [intOf]; omega
    ·have q : decide ((k : Int) < (ls.length : Int)) = false := by simp; omega
     obtain rfl : k = ls.length := by omega
     have HE : Hid (verErr a b c p.data.toList = 0) := by
      show _ = _
      have := HA.out
      rw [List.take_of_length_le (Nat.le_refl _)] at this
      rw [HV2.out, this]; rfl
     go_wp2_with fail
     go_ret
     exact ⟨by rw [HE.out]; rfl, below_then hbw hbr⟩
end Go.Proofs.YtbgimpeklblcjaaGreatDoor

namespace Go.Proofs.YtbgimpeklblcjaaGreatDoor
open Go.RowKit
end Go.Proofs.YtbgimpeklblcjaaGreatDoor

namespace Go
open Go.RowKit
/-- a row of picks, at a later world -/
theorem Piks.row {w w' : World} {a0 : Option Addr} {cap0 : Nat} {ps : List Pik} (h : Piks w (.slice a0 ps.length cap0) ps) (hb : Below w.heap.size w w') {k : Nat} (hk : k < ps.length) :
  ∃ b off, a0 = some ⟨b, off, none⟩ ∧ b < w.heap.size ∧ ∀ j (h : j < ps.length), w'.cell? ⟨b, off + j * 5, none⟩ = some (.string ps[j].name) ∧
   w'.cell? ⟨b, off + j * 5 + 1, none⟩ = some (.int .i64 ps[j].v.a) ∧ w'.cell? ⟨b, off + j * 5 + 2, none⟩ = some (.int .i64 ps[j].v.b) ∧ w'.cell? ⟨b, off + j * 5 + 3, none⟩ = some (.int .i64 ps[j].v.c) ∧
   w'.cell? ⟨b, off + j * 5 + 4, none⟩ = some (.string ps[j].v.p) := by
 rcases h.cases.2 with ⟨a, cap, hva, he⟩ | ⟨b, off, cap, hva, _, hbl, hc⟩
 ·rw [he] at hk; cases hk
 ·injection hva with hva
  refine ⟨b, off, hva, hbl, fun j hj => ?_⟩
  obtain ⟨g0, g1, g2, g3, g4⟩ := hc j hj
  exact ⟨(hb.cell (p := ⟨b, off + j * 5, none⟩) hbl).trans g0, (hb.cell (p := ⟨b, off + j * 5 + 1, none⟩) hbl).trans g1, (hb.cell (p := ⟨b, off + j * 5 + 2, none⟩) hbl).trans g2, (hb.cell (p := ⟨b, off + j * 5 + 3, none⟩) hbl).trans g3, (hb.cell (p := ⟨b, off + j * 5 + 4, none⟩) hbl).trans g4⟩
/-- the length, told by the slice itself -/
theorem Piks.len {w : World} {v : Value} {ps : List Pik} (h : Piks w v ps) : ∃ a cap, v = .slice a ps.length cap := by
 rcases h.cases.2 with ⟨a, cap, rfl, rfl⟩ | ⟨b, off, cap, rfl, _⟩
 ·exact ⟨a, cap, rfl⟩
 ·exact ⟨_, cap, rfl⟩
end Go
namespace Go.Proofs.YtbgimpeklblcjaaGreatDoor
open Go.RowKit
end Go.Proofs.YtbgimpeklblcjaaGreatDoor
