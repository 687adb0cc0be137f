/- The reference of layer 4: digits, order, texts, nonzero: walks. The reference of layer 4: order, texts, nonzero: walks. -/
import Derived.Test.YtbgimpeklblcjaaGreatDoorProg
import Derived.Test.YtbgimpeklblcjaaGreatDoorBase
import Derived.Test.YtbgimpeklblcjaaGreatDoorSemCom
import Derived.Test.YtbgimpeklblcjaaGreatDoorCells
import Derived.Deep.LoopGhost
import Derived.Lib.Hide
import Derived.RegionTactic
import Derived.ChangeAlike
import Derived.Deep.QuietTactic
import Derived.BigQuiet
import Derived.Deep.RegionWith
import Derived.Test.YtbgimpeklblcjaaGreatDoorSemMath
import Derived.StillTailTactics
import Derived.Deep.RegionHeld3
import Derived.Deep.DeepCutAuto
import Derived.Outline
namespace Go.Proofs.YtbgimpeklblcjaaGreatDoor
open Go.RowKit
def DigRel (s : ByteArray) (i : Value) : Prop := ∃ k : Nat, k ≤ s.size ∧ i = .int .i64 (k : Int) ∧ (s.data.toList.take k).all Sem4.isDig = true
set_option maxRecDepth 100000 in
set_option maxHeartbeats 1000000 in
theorem refDigits_any (s : ByteArray) (w : World) (hs : s.size ≤ 9223372036854775807) :
  Calls Tryz.prog 101 #[.string s] w fun e w' => e = .returned (.bool (Sem4.digits s.data.toList)) ∧ w = w' := by
 go_enter Tryz.func101, Tryz.ntmps101
 go_wp2_with fail
 go_loop [3] (fun i => DigRel s i) (fun i => s.size - (intOf i).toNat)
 case atStart => exact ⟨0, Nat.zero_le _, rfl, rfl⟩
 case round =>
  obtain ⟨k, hk, rfl, hall⟩ := hrel
  have HA := Lib.hid hall
  clear hall
  by_cases hlt : k < s.size
  ·have HT := Lib.hid (take_byte s k hlt)
   obtain ⟨x, hx⟩ : ∃ x, s[k] = x := ⟨_, rfl⟩
   rw [hx] at HT
   by_cases hd : Sem4.isDig x = true
   ·have h1 : 48 ≤ x.toNat ∧ x.toNat ≤ 57 := by simpa [Sem4.isDig] using hd
    have q1 : decide ((x.toNat : Int) < 48) = false := by simp; omega
    have q2 : decide ((57 : Int) < (x.toNat : Int)) = false := by simp; omega
    have HD := Lib.hid hd
    clear hd h1
    go_wp2_with fail
    go_round
    case rel => exact ⟨k + 1, by omega, by go_num, by rw [HT.out, List.all_append, HA.out]; simp [HD.out]⟩
    case measure => simp [intOf]; omega
   ·have HE : Hid (Sem4.digits s.data.toList = false) := by
     show _ = _
     unfold Sem4.digits
     rw [Bool.and_eq_false_iff]
     right
     rw [List.all_eq_false]
     refine ⟨x, ?_, by simpa using hd⟩
     have : x ∈ s.data.toList.take (k + 1) := by rw [HT.out]; simp
     exact List.mem_of_mem_take this
    have h1 : x.toNat < 48 ∨ 57 < x.toNat := by
     have : ¬ (48 ≤ x.toNat ∧ x.toNat ≤ 57) := by simpa [Sem4.isDig] using hd
     omega
    by_cases h2 : x.toNat < 48
    ·have q1 : decide ((x.toNat : Int) < 48) = true := by simp; omega
     clear hd h1 h2
     go_wp2_with fail
     go_ret
     exact ⟨by rw [HE.out]; rfl, rfl⟩
    ·have q1 : decide ((x.toNat : Int) < 48) = false := by simp; omega
     have q2 : decide ((57 : Int) < (x.toNat : Int)) = true := by simp; omega
     clear hd h1 h2
     go_wp2_with fail
     go_ret
     exact ⟨by rw [HE.out]; rfl, rfl⟩
  ·obtain rfl : k = s.size := by omega
   have HE : Hid (Sem4.digits s.data.toList = !s.toList.isEmpty) := by
    show _ = _
    have := HA.out
    rw [List.take_of_length_le (by rw [← Lib.size_eq]; exact Nat.le_refl _)] at this
    unfold Sem4.digits
    rw [this, toList_empty]; simp
   go_wp2_with fail
   go_ret
   exact ⟨by rw [HE.out]; rfl, rfl⟩
end Go.Proofs.YtbgimpeklblcjaaGreatDoor
namespace Go.Proofs.YtbgimpeklblcjaaGreatDoor
open Go.RowKit
theorem digits_as (s : ByteArray) (b : Bool) (h : Sem4.digits s.data.toList = b) (w : World) (hs : s.size ≤ 9223372036854775807) :
  Calls Tryz.prog 101 #[.string s] w fun e w' => e = .returned (.bool b) ∧ w = w' := by
 subst h; exact refDigits_any s w hs
theorem part_yes (s : ByteArray) (h : s.data.toList.all Sem4.partCh = true) : Sem4.part s.data.toList = (!s.data.toList.isEmpty && (!Sem4.digits s.data.toList || decide (s.data.toList = [48]) || decide (s.data.toList.head? ≠ some 48))) := by
 unfold Sem4.part; rw [h]; simp
set_option maxRecDepth 100000 in
set_option maxHeartbeats 2000000 in
theorem refPart_any (s : ByteArray) (w : World) (hs : s.size ≤ 9223372036854775807) :
  Calls Tryz.prog 67 #[.string s] w fun e w' => e = .returned (.bool (Sem4.part s.data.toList)) ∧ w = w' := by
 go_enter Tryz.func67, Tryz.ntmps67
 go_wp2_with fail
 go_loop [3, 4, 5] (fun i _ _ => PartRel s i) (fun i _ _ => s.size - (intOf i).toNat)
 case atStart => exact ⟨0, Nat.zero_le _, rfl, rfl⟩
 case round =>
  obtain ⟨k, hk, rfl, hall⟩ := hrel
  have HA := Lib.hid hall
  clear hall
  by_cases hlt : k < s.size
  ·have HT := Lib.hid (take_byte s k hlt)
   obtain ⟨x, hx⟩ : ∃ x, s[k] = x := ⟨_, rfl⟩
   rw [hx] at HT
   rcases (show (x.toNat < 45) ∨ (x.toNat = 45) ∨ (46 ≤ x.toNat ∧ x.toNat < 48) ∨ (48 ≤ x.toNat ∧ x.toNat ≤ 57) ∨ (58 ≤ x.toNat ∧ x.toNat < 65) ∨ (65 ≤ x.toNat ∧ x.toNat ≤ 90) ∨ (91 ≤ x.toNat ∧ x.toNat < 97) ∨ (97 ≤ x.toNat ∧ x.toNat ≤ 122) ∨ (123 ≤ x.toNat) by omega) with hc | hc | hc | hc | hc | hc | hc | hc | hc
   ·skip
    have q97 : decide ((97 : Int) ≤ (x.toNat : Int)) = false := by simp; omega
    have q122 : decide ((x.toNat : Int) ≤ (122 : Int)) = true := by simp; omega
    have q65 : decide ((65 : Int) ≤ (x.toNat : Int)) = false := by simp; omega
    have q90 : decide ((x.toNat : Int) ≤ (90 : Int)) = true := by simp; omega
    have q45 : ((x.toNat : Int) != 45) = true := by simp; omega
    have q48 : decide ((x.toNat : Int) < (48 : Int)) = true := by simp; omega
    have q57 : decide ((57 : Int) < (x.toNat : Int)) = false := by simp; omega
    have HE := Lib.hid (part_no s k hlt x hx (by simp [Sem4.partCh, Sem4.isDig]; omega))
    clear hc
    go_wp2_with fail
    go_ret
    exact ⟨by rw [HE.out]; rfl, rfl⟩
   ·skip
    have q97 : decide ((97 : Int) ≤ (x.toNat : Int)) = false := by simp; omega
    have q122 : decide ((x.toNat : Int) ≤ (122 : Int)) = true := by simp; omega
    have q65 : decide ((65 : Int) ≤ (x.toNat : Int)) = false := by simp; omega
    have q90 : decide ((x.toNat : Int) ≤ (90 : Int)) = true := by simp; omega
    have q45 : ((x.toNat : Int) != 45) = false := by simp; omega
    have q48 : decide ((x.toNat : Int) < (48 : Int)) = true := by simp; omega
    have q57 : decide ((57 : Int) < (x.toNat : Int)) = false := by simp; omega
    have HD : Hid (Sem4.partCh x = true) := by
     show _ = _
     simp [Sem4.partCh, Sem4.isDig]; omega
    clear hc
    go_wp2_with fail
    go_round
    case rel => exact ⟨k + 1, by omega, by go_num, by rw [HT.out, List.all_append, HA.out]; simp [HD.out]⟩
    case measure => simp [intOf]; omega
   ·skip
    have q97 : decide ((97 : Int) ≤ (x.toNat : Int)) = false := by simp; omega
    have q122 : decide ((x.toNat : Int) ≤ (122 : Int)) = true := by simp; omega
    have q65 : decide ((65 : Int) ≤ (x.toNat : Int)) = false := by simp; omega
    have q90 : decide ((x.toNat : Int) ≤ (90 : Int)) = true := by simp; omega
    have q45 : ((x.toNat : Int) != 45) = true := by simp; omega
    have q48 : decide ((x.toNat : Int) < (48 : Int)) = true := by simp; omega
    have q57 : decide ((57 : Int) < (x.toNat : Int)) = false := by simp; omega
    have HE := Lib.hid (part_no s k hlt x hx (by simp [Sem4.partCh, Sem4.isDig]; omega))
    clear hc
    go_wp2_with fail
    go_ret
    exact ⟨by rw [HE.out]; rfl, rfl⟩
   ·skip
    have q97 : decide ((97 : Int) ≤ (x.toNat : Int)) = false := by simp; omega
    have q122 : decide ((x.toNat : Int) ≤ (122 : Int)) = true := by simp; omega
    have q65 : decide ((65 : Int) ≤ (x.toNat : Int)) = false := by simp; omega
    have q90 : decide ((x.toNat : Int) ≤ (90 : Int)) = true := by simp; omega
    have q45 : ((x.toNat : Int) != 45) = true := by simp; omega
    have q48 : decide ((x.toNat : Int) < (48 : Int)) = false := by simp; omega
    have q57 : decide ((57 : Int) < (x.toNat : Int)) = false := by simp; omega
    have HD : Hid (Sem4.partCh x = true) := by
     show _ = _
     simp [Sem4.partCh, Sem4.isDig]; omega
    clear hc
    go_wp2_with fail
    go_round
    case rel => exact ⟨k + 1, by omega, by go_num, by rw [HT.out, List.all_append, HA.out]; simp [HD.out]⟩
    case measure => simp [intOf]; omega
   ·skip
    have q97 : decide ((97 : Int) ≤ (x.toNat : Int)) = false := by simp; omega
    have q122 : decide ((x.toNat : Int) ≤ (122 : Int)) = true := by simp; omega
    have q65 : decide ((65 : Int) ≤ (x.toNat : Int)) = false := by simp; omega
    have q90 : decide ((x.toNat : Int) ≤ (90 : Int)) = true := by simp; omega
    have q45 : ((x.toNat : Int) != 45) = true := by simp; omega
    have q48 : decide ((x.toNat : Int) < (48 : Int)) = false := by simp; omega
    have q57 : decide ((57 : Int) < (x.toNat : Int)) = true := by simp; omega
    have HE := Lib.hid (part_no s k hlt x hx (by simp [Sem4.partCh, Sem4.isDig]; omega))
    clear hc
    go_wp2_with fail
    go_ret
    exact ⟨by rw [HE.out]; rfl, rfl⟩
   ·skip
    have q97 : decide ((97 : Int) ≤ (x.toNat : Int)) = false := by simp; omega
    have q122 : decide ((x.toNat : Int) ≤ (122 : Int)) = true := by simp; omega
    have q65 : decide ((65 : Int) ≤ (x.toNat : Int)) = true := by simp; omega
    have q90 : decide ((x.toNat : Int) ≤ (90 : Int)) = true := by simp; omega
    have q45 : ((x.toNat : Int) != 45) = true := by simp; omega
    have q48 : decide ((x.toNat : Int) < (48 : Int)) = false := by simp; omega
    have q57 : decide ((57 : Int) < (x.toNat : Int)) = true := by simp; omega
    have HD : Hid (Sem4.partCh x = true) := by
     show _ = _
     simp [Sem4.partCh, Sem4.isDig]; omega
    clear hc
    go_wp2_with fail
    go_round
    case rel => exact ⟨k + 1, by omega, by go_num, by rw [HT.out, List.all_append, HA.out]; simp [HD.out]⟩
    case measure => simp [intOf]; omega
   ·skip
    have q97 : decide ((97 : Int) ≤ (x.toNat : Int)) = false := by simp; omega
    have q122 : decide ((x.toNat : Int) ≤ (122 : Int)) = true := by simp; omega
    have q65 : decide ((65 : Int) ≤ (x.toNat : Int)) = true := by simp; omega
    have q90 : decide ((x.toNat : Int) ≤ (90 : Int)) = false := by simp; omega
    have q45 : ((x.toNat : Int) != 45) = true := by simp; omega
    have q48 : decide ((x.toNat : Int) < (48 : Int)) = false := by simp; omega
    have q57 : decide ((57 : Int) < (x.toNat : Int)) = true := by simp; omega
    have HE := Lib.hid (part_no s k hlt x hx (by simp [Sem4.partCh, Sem4.isDig]; omega))
    clear hc
    go_wp2_with fail
    go_ret
    exact ⟨by rw [HE.out]; rfl, rfl⟩
   ·skip
    have q97 : decide ((97 : Int) ≤ (x.toNat : Int)) = true := by simp; omega
    have q122 : decide ((x.toNat : Int) ≤ (122 : Int)) = true := by simp; omega
    have q65 : decide ((65 : Int) ≤ (x.toNat : Int)) = true := by simp; omega
    have q90 : decide ((x.toNat : Int) ≤ (90 : Int)) = false := by simp; omega
    have q45 : ((x.toNat : Int) != 45) = true := by simp; omega
    have q48 : decide ((x.toNat : Int) < (48 : Int)) = false := by simp; omega
    have q57 : decide ((57 : Int) < (x.toNat : Int)) = true := by simp; omega
    have HD : Hid (Sem4.partCh x = true) := by
     show _ = _
     simp [Sem4.partCh, Sem4.isDig]; omega
    clear hc
    go_wp2_with fail
    go_round
    case rel => exact ⟨k + 1, by omega, by go_num, by rw [HT.out, List.all_append, HA.out]; simp [HD.out]⟩
    case measure => simp [intOf]; omega
   ·skip
    have q97 : decide ((97 : Int) ≤ (x.toNat : Int)) = true := by simp; omega
    have q122 : decide ((x.toNat : Int) ≤ (122 : Int)) = false := by simp; omega
    have q65 : decide ((65 : Int) ≤ (x.toNat : Int)) = true := by simp; omega
    have q90 : decide ((x.toNat : Int) ≤ (90 : Int)) = false := by simp; omega
    have q45 : ((x.toNat : Int) != 45) = true := by simp; omega
    have q48 : decide ((x.toNat : Int) < (48 : Int)) = false := by simp; omega
    have q57 : decide ((57 : Int) < (x.toNat : Int)) = true := by simp; omega
    have HE := Lib.hid (part_no s k hlt x hx (by simp [Sem4.partCh, Sem4.isDig]; omega))
    clear hc
    go_wp2_with fail
    go_ret
    exact ⟨by rw [HE.out]; rfl, rfl⟩
  ·obtain rfl : k = s.size := by omega
   have hall : s.data.toList.all Sem4.partCh = true := by
    have := HA.out
    rwa [List.take_of_length_le (by rw [← Lib.size_eq]; exact Nat.le_refl _)] at this
   have hP := part_yes s hall
   clear hall
   by_cases h0 : s.size = 0
   ·have hl : s.data.toList = [] := List.eq_nil_of_length_eq_zero (by rw [← Lib.size_eq]; exact h0)
    have hne : s.toList.isEmpty = true := by rw [Lib.toList_data, hl]; rfl
    have HE : Hid (Sem4.part s.data.toList = false) := by show _ = _; rw [hP, hl]; rfl
    clear hP h0 hl
    go_wp2_with fail
    go_ret
    exact ⟨by rw [HE.out]; rfl, rfl⟩
   have h1 : 0 < s.size := by omega
   have hlne : s.data.toList ≠ [] := by
    intro e; have := congrArg List.length e; rw [← Lib.size_eq, List.length_nil] at this; omega
   have hne : s.toList.isEmpty = false := by
    rw [Lib.toList_data]; cases h : s.data.toList with
    | nil => exact absurd h hlne
    | cons _ _ => rfl
   have hem : s.data.toList.isEmpty = false := by rw [← Lib.toList_data]; exact hne
   have h1i : (0 : Int) < (s.size : Int) := by omega
   obtain ⟨x0, hx0⟩ : ∃ x0, s[0] = x0 := ⟨_, rfl⟩
   have hhead : s.data.toList.head? = some x0 := by
    rw [List.head?_eq_getElem?, List.getElem?_eq_getElem (by rw [← Lib.size_eq]; exact h1)]
    exact congrArg some hx0
   rw [hem, hhead] at hP
   clear h0 hlne hem
   cases hd : Sem4.digits s.data.toList
   ·have HE : Hid (Sem4.part s.data.toList = true) := by show _ = _; rw [hP, hd]; rfl
    have HD := Lib.hid hd
    clear hP hd hhead
    go_wp2_with (go_at_call 101; go_must (refine (digits_as _ false HD.out _ hs).mono ?_); rintro e w1 ⟨rfl, rfl⟩)
    go_ret
    exact ⟨by rw [HE.out]; rfl, rfl⟩
   have HD := Lib.hid hd
   rw [hd] at hP
   clear hd
   by_cases he : s.data.toList = [48]
   ·have q1 : (s.toList == [48]) = true := by rw [Lib.toList_data, he]; rfl
    have HE : Hid (Sem4.part s.data.toList = true) := by show _ = _; rw [hP]; simp [he]
    clear hP hhead he
    go_wp2_with (go_at_call 101; go_must (refine (digits_as _ true HD.out _ hs).mono ?_); rintro e w1 ⟨rfl, rfl⟩)
    go_ret
    exact ⟨by rw [HE.out]; rfl, rfl⟩
   have q1 : (s.toList == [48]) = false := by rw [Lib.toList_data]; simpa using he
   by_cases hx : x0.toNat = 48
   ·have q2 : ((x0.toNat : Int) != 48) = false := by simp; omega
    have HE : Hid (Sem4.part s.data.toList = false) := by
     show _ = _
     have : x0 = 48 := UInt8.toNat_inj.1 hx
     rw [hP]; simp [he, this]
    clear hP hhead he hx
    go_wp2_with (go_at_call 101; go_must (refine (digits_as _ true HD.out _ hs).mono ?_); rintro e w1 ⟨rfl, rfl⟩)
    go_ret
    exact ⟨by rw [HE.out]; rfl, rfl⟩
   ·have q2 : ((x0.toNat : Int) != 48) = true := by simp; omega
    have HE : Hid (Sem4.part s.data.toList = true) := by
     show _ = _
     have : x0 ≠ 48 := fun e => hx (by rw [e]; rfl)
     rw [hP]; simp [this]
    clear hP hhead he hx
    go_wp2_with (go_at_call 101; go_must (refine (digits_as _ true HD.out _ hs).mono ?_); rintro e w1 ⟨rfl, rfl⟩)
    go_ret
    exact ⟨by rw [HE.out]; rfl, rfl⟩
end Go.Proofs.YtbgimpeklblcjaaGreatDoor
namespace Go.Proofs.YtbgimpeklblcjaaGreatDoor
open Go.RowKit
theorem info_string : (Tryz.prog.info? 9).map (fun i => (i.zero, i.size, i.bytes)) = some (some (.string ⟨#[]⟩), 1, 16) := by kernel_rfl
theorem one_byte (s : ByteArray) (k : Nat) (h : k < s.size) : s.extract k (k + 1) = S [s[k]] := by
 apply ByteArray.ext; apply Array.toList_inj.1
 rw [Lib.extract_data]
 simp only [S]
 have : s.data.toList.drop k = s[k] :: s.data.toList.drop (k + 1) := by
  rw [List.drop_eq_getElem_cons (by simpa using h)]; rfl
 rw [this]
 simp
def PartsRel (s : ByteArray) (w : World) (v i : Value) (wr : World) : Prop :=
 ∃ (k g cap m : Nat) (init : List (List UInt8)) (last : List UInt8), k ≤ s.size ∧ i = .int .i64 (k : Int) ∧ v = .slice (some ⟨g, 0, none⟩) (m + 1) cap ∧ init.length = m ∧ m ≤ k ∧ last.length ≤ k ∧
  init ++ [last] = Sem4.dots (s.data.toList.take k) ∧ wr.ownsRow w.heap.size 9 1 v (m + 1) (strs (init ++ [last])) ∧ Below w.heap.size w wr
set_option maxRecDepth 100000 in
set_option maxHeartbeats 1000000 in
theorem refParts_any (s : ByteArray) (w : World) (hs : s.size ≤ 100000) :
  Calls Tryz.prog 66 #[.string s] w fun e w' => ∃ v n, e = .returned v ∧ w'.ownsRow w.heap.size 9 1 v n (strs (Sem4.dots s.data.toList)) ∧ Below w.heap.size w w' := by
 obtain ⟨i0, hi, hz0, hz1, hz2⟩ := info_parts info_string
 go_enter Tryz.func66, Tryz.ntmps66
 go_wp2_with fail
 go_loopw [3, 4] (fun v i wr => PartsRel s w v i wr) (fun _ i _ => s.size - (intOf i).toNat)
 case atStart =>
  refine ⟨0, w.heap.size, 1, 0, [], [], Nat.zero_le _, rfl, rfl, rfl, Nat.le_refl _, Nat.le_refl _, rfl, ?_, (Below.refl _ _).alloc (Nat.le_refl _) _⟩
  exact ⟨rfl, .inr ⟨w.heap.size, 1, _, rfl, Nat.le_refl _, Below_heap_new w _, Nat.le_refl _, by decide, rfl, rfl⟩⟩
 case round =>
  obtain ⟨k, g, cap, m, init, last, hk, rfl, rfl, hm, hmk, hlk, hdots, hown, hbw⟩ := hrel
  by_cases hlt : k < s.size
  ·obtain ⟨x, hx⟩ : ∃ x, s[k] = x := ⟨_, rfl⟩
   have c1 : wr.cell? ⟨g, m, none⟩ = some (.string (S last)) := by
    have := World.ownsRow.cellAt hown m (by omega)
    rw [this]; simp [strs, ← hm]
   have c2 : wr.frozen? ⟨g, m, none⟩ = false := World.ownsRow.frozenAt hown m
   have HO := Lib.hid hown
   have HD := Lib.hid hdots
   have HM := Lib.hid hm
   have hsz : (S last).size ≤ 100000 := by rw [S_size]; omega
   have hg := (hown.lt g rfl).1
   obtain ⟨lst, hl⟩ : ∃ t, t = S last := ⟨_, rfl⟩
   have HLs := Lib.hid hl
   rw [← hl] at c1 hsz
   clear hown hdots hm hl
   by_cases hc : x.toNat = 46
   ·have q1 : ((x.toNat : Int) == 46) = true := by simp; omega
    have hx46 : x = 46 := UInt8.toNat_inj.1 hc
    have hzw := hbw.size
    go_wp2_with (at_builtin; go_must (refine wpList_append_own _ rfl _ _ 56 rfl w.heap.size 9 i0 (.string ⟨#[]⟩) 1 16 Tryz.underlying56 hi hz0 hz1 hz2 rfl (by decide) _ _ _ rfl (HO.out.alloc _) ⟨_, 0, none⟩ 1 1 [.string ⟨#[]⟩] rfl rfl ?c1 ?c2 ?c3 ?c4 ?c5 ?_))
    case c1 => exact cell_one_new _ _ _
    case c2 => intro u hu; simp at hu; subst hu; rfl
    case c3 => unfold maxLen; omega
    case c4 => omega
    case c5 => simp; omega
    intro v' w2 hown2 hg2 _
    have hb3 := below_grown (hbw.alloc hzw _) (HO.out.alloc _) hg2 (by simp; omega)
    obtain ⟨g2, cap2, hv2⟩ := Joins.ownsRow_form hown2 (by omega)
    subst hv2
    have HO2 := Lib.hid hown2
    clear hg2 hown2
    go_wp2
    go_roundw
    case rel =>
     refine ⟨k + 1, g2, cap2, m + 1, init ++ [last], [], by omega, by go_num, rfl, by simp [HM.out], by omega, by simp, ?_, ?_, hb3⟩
     ·rw [take_byte s k hlt, hx, Sem4.dots_snoc, ← HD.out, hx46]
      rfl
     ·have h := HO2.out
      have e : strs (init ++ [last]) ++ [.string ⟨#[]⟩] = strs (init ++ [last] ++ [[]]) := by simp [strs]; rfl
      rw [e] at h
      exact h
    case measure => simp [intOf]; omega
   ·have q1 : ((x.toNat : Int) == 46) = false := by simp; omega
    have j1 : (m : Int) < (m : Int) + 1 := by omega
    have j2 : (0 : Int) ≤ (m : Int) := by omega
    have j3 : (k : Int) < (s.size : Int) := by omega
    go_wp2_with fail
    go_region
    go_wp2_with fail
    go_roundw
    case rel =>
     refine ⟨k + 1, g, cap, m, init, last ++ [x], by omega, by go_num, rfl, HM.out, by omega, by simp; omega, ?_, ?_, ?_⟩
     ·have hx46 : x ≠ 46 := fun e => hc (by rw [e]; rfl)
      rw [take_byte s k hlt, hx, Sem4.dots_snoc, ← HD.out]
      simp [Sem4.dotSnoc, hx46]
     ·have h := owns_below (World.ownsRow.stored HO.out m (.string (lst ++ s.extract k (k + 1)))).1 (Below.refl _ _).drew
      have e1 : lst ++ s.extract k (k + 1) = S (last ++ [x]) := by
       rw [HLs.out, ← S_append, ← hx, one_byte s k hlt]
      have e2 : (strs (init ++ [last])).set m (.string (lst ++ s.extract k (k + 1))) = strs (init ++ [last ++ [x]]) := by
       rw [e1, ← HM.out]; simp [strs]
      rw [e2] at h
      exact h
     ·exact (hbw.setCell hg _).drew
    case measure => simp [intOf]; omega
  ·obtain rfl : k = s.size := by omega
   rw [List.take_of_length_le (by rw [← Lib.size_eq]; exact Nat.le_refl _)] at hdots
   rw [hdots] at hown
   have HO := Lib.hid hown
   clear hown hdots hm
   go_wp2_with fail
   go_ret
   exact ⟨_, _, rfl, HO.out, hbw⟩
end Go.Proofs.YtbgimpeklblcjaaGreatDoor
namespace Go.Proofs.YtbgimpeklblcjaaGreatDoor
open Go.RowKit
theorem part_as (s : ByteArray) (b : Bool) (h : Sem4.part s.data.toList = b) (w : World) (hs : s.size ≤ 9223372036854775807) :
  Calls Tryz.prog 67 #[.string s] w fun e w' => e = .returned (.bool b) ∧ w = w' := by
 subst h; exact refPart_any s w hs
/-- the cells of a row of texts -/
theorem strs_cells {w : World} {base : Nat} {e : TypeId} {v : Value} {n : Nat} {ls : List (List UInt8)} (h : w.ownsRow base e 1 v n (strs ls)) (hn : 0 < n) :
  n = ls.length ∧ ∃ g cap, v = .slice (some ⟨g, 0, none⟩) n cap ∧ base ≤ g ∧ ∀ j (hj : j < ls.length), w.cell? ⟨g, j, none⟩ = some (.string (S ls[j])) := by
 have h1 : n = ls.length := by have := h.1; rw [strs_length] at this; omega
 obtain ⟨g, cap, hv⟩ := Joins.ownsRow_form h hn
 subst hv
 refine ⟨h1, g, cap, rfl, (h.lt g rfl).1, fun j hj => ?_⟩
 rw [World.ownsRow.cellAt h j (by omega), strs_get ls j hj]
def ChkRel (ls : List (List UInt8)) (i : Value) : Prop := ∃ k : Nat, k ≤ ls.length ∧ i = .int .i64 (k : Int) ∧ (ls.take k).all Sem4.part = true
set_option maxRecDepth 100000 in
set_option maxHeartbeats 2000000 in
theorem refCheck_any (a b c : Int) (p : ByteArray) (w : World) (hs : p.size ≤ 9223372036854775807) :
  Calls Tryz.prog 36 #[.agg #[.int .i64 a, .int .i64 b, .int .i64 c, .string p]] w fun e w' => e = .returned (.int .i64 (verErr a b c p.data.toList)) ∧ Below w.heap.size w w' := by
 by_cases h0 : a < 0
 ·have q0 : decide (a < 0) = true := by simpa using h0
  have HE : Hid (verErr a b c p.data.toList = 40) := by
   show _ = _
   unfold verErr verOk numOk
   rw [if_neg (by simp; omega)]
  clear h0
  go_enter Tryz.func36, Tryz.ntmps36
  go_wp2_with fail
  go_ret
  exact ⟨by rw [HE.out]; rfl, (Below.refl _ _).alloc (Nat.le_refl _) _⟩
 have q0 : decide (a < 0) = false := by simpa using h0
 by_cases h1 : 999999 < a
 ·have q1 : decide (999999 < a) = true := by simpa using h1
  have HE : Hid (verErr a b c p.data.toList = 40) := by
   show _ = _
   unfold verErr verOk numOk
   rw [if_neg (by simp; omega)]
  clear h1
  go_enter Tryz.func36, Tryz.ntmps36
  go_wp2_with fail
  go_ret
  exact ⟨by rw [HE.out]; rfl, (Below.refl _ _).alloc (Nat.le_refl _) _⟩
 have q1 : decide (999999 < a) = false := by simpa using h1
 by_cases h2 : b < 0
 ·have q2 : decide (b < 0) = true := by simpa using h2
  have HE : Hid (verErr a b c p.data.toList = 40) := by
   show _ = _
   unfold verErr verOk numOk
   rw [if_neg (by simp; omega)]
  clear h2
  go_enter Tryz.func36, Tryz.ntmps36
  go_wp2_with fail
  go_ret
  exact ⟨by rw [HE.out]; rfl, (Below.refl _ _).alloc (Nat.le_refl _) _⟩
 have q2 : decide (b < 0) = false := by simpa using h2
 by_cases h3 : 999999 < b
 ·have q3 : decide (999999 < b) = true := by simpa using h3
  have HE : Hid (verErr a b c p.data.toList = 40) := by
   show _ = _
   unfold verErr verOk numOk
   rw [if_neg (by simp; omega)]
  clear h3
  go_enter Tryz.func36, Tryz.ntmps36
  go_wp2_with fail
  go_ret
  exact ⟨by rw [HE.out]; rfl, (Below.refl _ _).alloc (Nat.le_refl _) _⟩
 have q3 : decide (999999 < b) = false := by simpa using h3
 by_cases h4 : c < 0
 ·have q4 : decide (c < 0) = true := by simpa using h4
  have HE : Hid (verErr a b c p.data.toList = 40) := by
   show _ = _
   unfold verErr verOk numOk
   rw [if_neg (by simp; omega)]
  clear h4
  go_enter Tryz.func36, Tryz.ntmps36
  go_wp2_with fail
  go_ret
  exact ⟨by rw [HE.out]; rfl, (Below.refl _ _).alloc (Nat.le_refl _) _⟩
 have q4 : decide (c < 0) = false := by simpa using h4
 by_cases h5 : 999999 < c
 ·have q5 : decide (999999 < c) = true := by simpa using h5
  have HE : Hid (verErr a b c p.data.toList = 40) := by
   show _ = _
   unfold verErr verOk numOk
   rw [if_neg (by simp; omega)]
  clear h5
  go_enter Tryz.func36, Tryz.ntmps36
  go_wp2_with fail
  go_ret
  exact ⟨by rw [HE.out]; rfl, (Below.refl _ _).alloc (Nat.le_refl _) _⟩
 have q5 : decide (999999 < c) = false := by simpa using h5
 by_cases h6 : 24 < p.size
 ·have q6 : decide ((24 : Int) < (p.size : Int)) = true := by simp; omega
  have HE : Hid (verErr a b c p.data.toList = 40) := by
   show _ = _
   unfold verErr verOk numOk
   rw [if_neg (by rw [← Lib.size_eq]; simp; omega)]
  clear h6
  go_enter Tryz.func36, Tryz.ntmps36
  go_wp2_with fail
  go_ret
  exact ⟨by rw [HE.out]; rfl, (Below.refl _ _).alloc (Nat.le_refl _) _⟩
 have q6 : decide ((24 : Int) < (p.size : Int)) = false := by simp; omega
 have HV : Hid (verErr a b c p.data.toList = if preOk p.data.toList then 0 else 40) := by
  show _ = _
  unfold verErr verOk numOk
  rw [← Lib.size_eq]
  congr 1
  simp
  intro _
  omega
 cases hem : p.toList.isEmpty
 case true =>
  have HE : Hid (verErr a b c p.data.toList = 0) := by
   show _ = _
   rw [HV.out, ← Lib.toList_data]; unfold preOk; rw [hem]; rfl
  go_enter Tryz.func36, Tryz.ntmps36
  go_wp2_with fail
  go_ret
  exact ⟨by rw [HE.out]; rfl, (Below.refl _ _).alloc (Nat.le_refl _) _⟩
 obtain ⟨ls, hls⟩ : ∃ ls, ls = Sem4.dots p.data.toList := ⟨_, rfl⟩
 have hne : ls ≠ [] := by rw [hls]; exact Sem4.dots_ne _
 have hln : 0 < ls.length := List.length_pos_iff.2 hne
 have hlen : ls.length ≤ 25 := by
  have := dots_len p.data.toList
  rw [← hls, ← Lib.size_eq] at this; omega
 have hsz : ∀ l ∈ ls, l.length ≤ 24 := by
  intro l hl
  rw [hls] at hl
  have := dots_part_size _ l hl
  rw [← Lib.size_eq] at this; omega
 have HV2 : Hid (verErr a b c p.data.toList = if ls.all Sem4.part then 0 else 40) := by
  show _ = _
  rw [HV.out]; unfold preOk
  rw [← Lib.toList_data] at hls ⊢
  rw [hem, ← hls]; rfl
 have HLS := Lib.hid hls
 have HSZ := Lib.hid hsz
 have hps : p.size ≤ 24 := by omega
 clear hls hsz hne HV h6 h0 h1 h2 h3 h4 h5
 go_enter Tryz.func36, Tryz.ntmps36
 go_wp2_with fail
 refine (refParts_any p _ (by omega)).mono ?_
 rintro e w1 ⟨v, n, rfl, hown, hb1⟩
 rw [← HLS.out] at hown
 have hn : n = ls.length := by have := hown.1; rw [strs_length] at this; omega
 subst hn
 obtain ⟨_, g, cap, hv, hg, hcells⟩ := strs_cells hown hln
 subst hv
 have hbw := ((Below.refl w.heap.size w).alloc (Nat.le_refl _) (.cells #[.int .i64 a, .int .i64 b, .int .i64 c, .string p] 41)).trans (hb1.mono (by simp))
 have HCE := Lib.hid hcells
 clear hown hcells hb1
 go_wp2_with fail
 go_loop [4] (fun i => ChkRel ls i) (fun i => ls.length - (intOf i).toNat)
 case atStart => exact ⟨0, Nat.zero_le _, rfl, rfl⟩
 case round =>
  obtain ⟨k, hk, rfl, hall⟩ := hrel
  have HA := Lib.hid hall
  clear hall
  by_cases hlt : k < ls.length
  ·have hc := HCE.out k hlt
   have hki : (k : Int) < (ls.length : Int) := by omega
   have hsk : (S ls[k]).size ≤ 9223372036854775807 := by
    rw [S_size]; have := HSZ.out _ (List.getElem_mem hlt); omega
   cases hp : Sem4.part ls[k]
   ·have HP : Hid (Sem4.part (S ls[k]).data.toList = false) := hp
    have HE : Hid (verErr a b c p.data.toList = 40) := by
     show _ = _
     rw [HV2.out, if_neg]
     intro h
     have := List.all_eq_true.1 h _ (List.getElem_mem hlt)
     rw [hp] at this; cases this
    clear hp
    go_wp2_with (go_at_call 67; go_must (refine (part_as _ false HP.out _ hsk).mono ?_); rintro e w2 ⟨rfl, rfl⟩)
    go_ret
    exact ⟨by rw [HE.out]; rfl, hbw⟩
   ·have HP : Hid (Sem4.part (S ls[k]).data.toList = true) := hp
    clear hp
    go_wp2_with (go_at_call 67; go_must (refine (part_as _ true HP.out _ hsk).mono ?_); rintro e w2 ⟨rfl, rfl⟩)
    go_round
    case rel => exact ⟨k + 1, by omega, by go_num, by rw [List.take_succ_eq_append_getElem hlt, List.all_append, HA.out]; simpa [S_data] using HP.out⟩
    case measure => simp [intOf]; omega
  ·obtain rfl : k = ls.length := by omega
   have HE : Hid (verErr a b c p.data.toList = 0) := by
    show _ = _
    have := HA.out
    rw [List.take_of_length_le (Nat.le_refl _)] at this
    rw [HV2.out, this]; rfl
   go_wp2_with fail
   go_ret
   exact ⟨by rw [HE.out]; rfl, hbw⟩
end Go.Proofs.YtbgimpeklblcjaaGreatDoor
namespace Go.Proofs.YtbgimpeklblcjaaGreatDoor
open Go.RowKit
end Go.Proofs.YtbgimpeklblcjaaGreatDoor
namespace Go.Proofs.YtbgimpeklblcjaaGreatDoor
open Go.RowKit
end Go.Proofs.YtbgimpeklblcjaaGreatDoor

namespace Go.Proofs.YtbgimpeklblcjaaGreatDoor
open Go.RowKit
set_option maxHeartbeats 400000 in
theorem refOrder_any (a b : Int) (w : World) :
  Calls Tryz.prog 68 #[.int .i64 a, .int .i64 b] w fun e w' => e = .returned (.int .i64 (ord a b)) ∧ w = w' := by
 by_cases h1 : a < b
 ·have HE : Hid (ord a b = -1) := by show _ = _; unfold ord; rw [if_pos h1]
  go_enter Tryz.func68, Tryz.ntmps68
  go_wp2
  go_ret
  exact ⟨by rw [HE.out]; rfl, rfl⟩
 by_cases h2 : b < a
 ·have HE : Hid (ord a b = 1) := by show _ = _; unfold ord; rw [if_neg h1, if_pos h2]
  go_enter Tryz.func68, Tryz.ntmps68
  go_wp2
  go_ret
  exact ⟨by rw [HE.out]; rfl, rfl⟩
 ·have HE : Hid (ord a b = 0) := by show _ = _; unfold ord; rw [if_neg h1, if_neg h2]
  go_enter Tryz.func68, Tryz.ntmps68
  go_wp2
  go_ret
  exact ⟨by rw [HE.out]; rfl, rfl⟩
set_option maxHeartbeats 400000 in
theorem refTexts_any (a b : ByteArray) (w : World) :
  Calls Tryz.prog 102 #[.string a, .string b] w fun e w' => e = .returned (.int .i64 (txt a.data.toList b.data.toList)) ∧ w = w' := by
 rw [← Lib.toList_data, ← Lib.toList_data]
 cases h1 : Op.bytesLess a.toList b.toList
 ·cases h2 : (a.toList == b.toList)
  ·have HE : Hid (txt a.toList b.toList = 1) := by show _ = _; unfold txt; rw [h1, h2]; rfl
   go_enter Tryz.func102, Tryz.ntmps102
   go_wp2
   go_ret
   exact ⟨by rw [HE.out]; rfl, rfl⟩
  ·have HE : Hid (txt a.toList b.toList = 0) := by show _ = _; unfold txt; rw [h1, h2]; rfl
   go_enter Tryz.func102, Tryz.ntmps102
   go_wp2
   go_ret
   exact ⟨by rw [HE.out]; rfl, rfl⟩
 ·have HE : Hid (txt a.toList b.toList = -1) := by show _ = _; unfold txt; rw [h1]; rfl
  go_enter Tryz.func102, Tryz.ntmps102
  go_wp2
  go_ret
  exact ⟨by rw [HE.out]; rfl, rfl⟩
def nonz (a b : List UInt8) : Int := if a.isEmpty && b.isEmpty then 0 else 1
set_option maxHeartbeats 400000 in
theorem refNonzero_any (a b : ByteArray) (w : World) :
  Calls Tryz.prog 69 #[.string a, .string b] w fun e w' => e = .returned (.int .i64 (nonz a.data.toList b.data.toList)) ∧ w = w' := by
 rw [← Lib.toList_data, ← Lib.toList_data]
 cases h1 : a.toList.isEmpty <;> cases h2 : b.toList.isEmpty
 all_goals
  have HE := Lib.hid (show nonz a.toList b.toList = _ by unfold nonz; rw [h1, h2])
  go_enter Tryz.func69, Tryz.ntmps69
  go_wp2
  go_ret
  exact ⟨by rw [HE.out]; rfl, rfl⟩
end Go.Proofs.YtbgimpeklblcjaaGreatDoor
namespace Go.Proofs.YtbgimpeklblcjaaGreatDoor
open Go.RowKit
def PadRel (l : List UInt8) (n : Nat) (v : Value) : Prop := ∃ j : Nat, j ≤ n - l.length ∧ v = .string (S (List.replicate j 48 ++ l))
theorem texts_as (a b : List UInt8) (w : World) : Calls Tryz.prog 102 #[.string (S a), .string (S b)] w fun e w' => e = .returned (.int .i64 (txt a b)) ∧ w = w' := refTexts_any (S a) (S b) w
theorem zero_app (l : List UInt8) (j : Nat) : (⟨#[48]⟩ : ByteArray) ++ S (List.replicate j 48 ++ l) = S (List.replicate (j + 1) 48 ++ l) := by
 rw [show (⟨#[48]⟩ : ByteArray) = S [48] from rfl, S_append, List.replicate_succ]; rfl
set_option maxRecDepth 100000 in
set_option maxHeartbeats 1000000 in
theorem refPartsCmp_any (a b : List UInt8) (w : World) (ha : a.length ≤ 100000) (hb : b.length ≤ 100000) :
  Calls Tryz.prog 70 #[.string (S a), .string (S b)] w fun e w' => e = .returned (.int .i64 (partsCmp a b)) ∧ w = w' := by
 have za : (S a).size ≤ 9223372036854775807 := by rw [S_size]; omega
 have zb : (S b).size ≤ 9223372036854775807 := by rw [S_size]; omega
 cases hA : Sem4.digits a <;> cases hB : Sem4.digits b
 ·have HA : Hid (Sem4.digits (S a).data.toList = false) := hA
  have HB : Hid (Sem4.digits (S b).data.toList = false) := hB
  have HE : Hid (partsCmp a b = txt a b) := by show _ = _; unfold partsCmp; rw [hA, hB]; rfl
  clear hA hB
  go_enter Tryz.func70, Tryz.ntmps70
  go_wp2_with fail
  refine (digits_as _ false HA.out _ za).mono ?_
  rintro e w1 ⟨rfl, rfl⟩
  go_wp2_with fail
  refine (digits_as _ false HB.out _ zb).mono ?_
  rintro e w1 ⟨rfl, rfl⟩
  go_wp2_with (go_at_call 102; go_must (refine (texts_as _ _ _).mono ?_); rintro e w1 ⟨rfl, rfl⟩)
  go_ret
  exact ⟨by rw [HE.out]; rfl, rfl⟩
 ·have HA : Hid (Sem4.digits (S a).data.toList = false) := hA
  have HB : Hid (Sem4.digits (S b).data.toList = true) := hB
  have HE : Hid (partsCmp a b = 1) := by show _ = _; unfold partsCmp; rw [hA, hB]; rfl
  clear hA hB
  go_enter Tryz.func70, Tryz.ntmps70
  go_wp2_with fail
  refine (digits_as _ false HA.out _ za).mono ?_
  rintro e w1 ⟨rfl, rfl⟩
  go_wp2_with fail
  refine (digits_as _ true HB.out _ zb).mono ?_
  rintro e w1 ⟨rfl, rfl⟩
  go_wp2_with fail
  go_ret
  exact ⟨by rw [HE.out]; rfl, rfl⟩
 ·have HA : Hid (Sem4.digits (S a).data.toList = true) := hA
  have HB : Hid (Sem4.digits (S b).data.toList = false) := hB
  have HE : Hid (partsCmp a b = -1) := by show _ = _; unfold partsCmp; rw [hA, hB]; rfl
  clear hA hB
  go_enter Tryz.func70, Tryz.ntmps70
  go_wp2_with fail
  refine (digits_as _ true HA.out _ za).mono ?_
  rintro e w1 ⟨rfl, rfl⟩
  go_wp2_with fail
  refine (digits_as _ false HB.out _ zb).mono ?_
  rintro e w1 ⟨rfl, rfl⟩
  go_wp2_with fail
  go_ret
  exact ⟨by rw [HE.out]; rfl, rfl⟩
 ·have HA : Hid (Sem4.digits (S a).data.toList = true) := hA
  have HB : Hid (Sem4.digits (S b).data.toList = true) := hB
  have HE : Hid (partsCmp a b = txt (pad b.length a) (pad a.length b)) := by show _ = _; unfold partsCmp; rw [hA, hB]; rfl
  clear hA hB
  go_enter Tryz.func70, Tryz.ntmps70
  go_wp2_with fail
  refine (digits_as _ true HA.out _ za).mono ?_
  rintro e w1 ⟨rfl, rfl⟩
  go_wp2_with fail
  refine (digits_as _ true HB.out _ zb).mono ?_
  rintro e w1 ⟨rfl, rfl⟩
  go_wp2_with fail
  go_loop [0] (fun v => PadRel a b.length v) (fun v => b.length - (match v with | .string s => s.size | _ => 0))
  case atStart => exact ⟨0, Nat.zero_le _, rfl⟩
  case round =>
   obtain ⟨j, hj, rfl⟩ := hrel
   have hz : (S (List.replicate j 48 ++ a)).size = j + a.length := by rw [S_size]; simp
   have hz1 : (S (List.replicate j 48 ++ a)).size ≤ j + a.length := by omega
   have hz2 : j + a.length ≤ (S (List.replicate j 48 ++ a)).size := by omega
   have hb1 : (S b).size ≤ b.length := by rw [S_size]; exact Nat.le_refl _
   have hb2 : b.length ≤ (S b).size := by rw [S_size]; exact Nat.le_refl _
   have HZ := Lib.hid (zero_app a j)
   clear hz
   by_cases hlt : j + a.length < b.length
   ·go_wp2_with fail
    go_round
    case rel => exact ⟨j + 1, by omega, by rw [HZ.out]⟩
    case measure =>
     show b.length - (_ ++ _ : ByteArray).size < b.length - (S _).size
     rw [HZ.out, S_size, S_size]; simp; omega
   ·have HJ : Hid (List.replicate j 48 ++ a = pad b.length a) := by
     show _ = _
     unfold pad
     rw [show j = b.length - a.length by omega]
    go_wp2_with fail
    go_loop [1] (fun v => PadRel b a.length v) (fun v => a.length - (match v with | .string s => s.size | _ => 0))
    case atStart => exact ⟨0, Nat.zero_le _, rfl⟩
    case round =>
     obtain ⟨i, hi, rfl⟩ := hrel
     have hy : (S (List.replicate i 48 ++ b)).size = i + b.length := by rw [S_size]; simp
     have hy1 : (S (List.replicate i 48 ++ b)).size ≤ i + b.length := by omega
     have hy2 : i + b.length ≤ (S (List.replicate i 48 ++ b)).size := by omega
     have HY := Lib.hid (zero_app b i)
     clear hy
     by_cases hl2 : i + b.length < j + a.length
     ·go_wp2_with fail
      go_round
      case rel => exact ⟨i + 1, by omega, by rw [HY.out]⟩
      case measure =>
       show a.length - (_ ++ _ : ByteArray).size < a.length - (S _).size
       rw [HY.out, S_size, S_size]; simp; omega
     ·have HI : Hid (List.replicate i 48 ++ b = pad a.length b) := by
       show _ = _
       unfold pad
       rw [show i = a.length - b.length by omega]
      go_wp2_with (go_at_call 102; go_must (refine (texts_as _ _ _).mono ?_); rintro e w1 ⟨rfl, rfl⟩)
      go_ret
      exact ⟨by rw [HE.out, ← HJ.out, ← HI.out]; rfl, rfl⟩
end Go.Proofs.YtbgimpeklblcjaaGreatDoor
namespace Go.Proofs.YtbgimpeklblcjaaGreatDoor
open Go.RowKit
theorem order_still (a b r : Int) (h : ord a b = r) (w : World) :
  Calls Tryz.prog 68 #[.int .i64 a, .int .i64 b] w fun e w' => e = .returned (.int .i64 r) ∧ w' = w :=
 (refOrder_any a b w).mono fun _ _ ⟨h1, h2⟩ => ⟨by rw [h1, h], h2.symm⟩
theorem nonz_still (a b : ByteArray) (r : Int) (h : nonz a.data.toList b.data.toList = r) (w : World) :
  Calls Tryz.prog 69 #[.string a, .string b] w fun e w' => e = .returned (.int .i64 r) ∧ w' = w :=
 (refNonzero_any a b w).mono fun _ _ ⟨h1, h2⟩ => ⟨by rw [h1, h], h2.symm⟩
theorem parts_still (a b : List UInt8) (r : Int) (h : partsCmp a b = r) (w : World) (ha : a.length ≤ 100000) (hb : b.length ≤ 100000) :
  Calls Tryz.prog 70 #[.string (S a), .string (S b)] w fun e w' => e = .returned (.int .i64 r) ∧ w' = w :=
 (refPartsCmp_any a b w ha hb).mono fun _ _ ⟨h1, h2⟩ => ⟨by rw [h1, h], h2.symm⟩
theorem refParts_strs (s : ByteArray) (w : World) (hs : s.size ≤ 100000) :
  Calls Tryz.prog 66 #[.string s] w fun e w' => ∃ v, e = .returned v ∧ Strs w' v (Sem4.dots s.data.toList) ∧ Below w.heap.size w w' :=
 (refParts_any s w hs).mono fun _ _ ⟨v, _, h1, h2, h3⟩ => ⟨v, h1, Strs.of_owns h2, h3⟩
theorem refParts_keep (s : ByteArray) (w : World) (hs : s.size ≤ 100000) (B : Nat) (x y : Value) (h : w.cell? ⟨B, 3, none⟩ = some x ∧ w.cell? ⟨B + 1, 3, none⟩ = some y) :
  Calls Tryz.prog 66 #[.string s] w fun e w' => ∃ v, e = .returned v ∧ Strs w' v (Sem4.dots s.data.toList) ∧ Below w.heap.size w w' ∧ (w'.cell? ⟨B, 3, none⟩ = some x ∧ w'.cell? ⟨B + 1, 3, none⟩ = some y) :=
 (refParts_strs s w hs).mono fun _ _ ⟨v, h1, h2, h3⟩ => ⟨v, h1, h2, h3, (h3.cell (p := ⟨B, 3, none⟩) (cell_lt h.1)).trans h.1, (h3.cell (p := ⟨B + 1, 3, none⟩) (cell_lt h.2)).trans h.2⟩
def C3Rel (o0 o1 o2 : Int) (i : Value) : Prop := i = .int .i64 0 ∨ (i = .int .i64 1 ∧ o0 = 0) ∨ (i = .int .i64 2 ∧ o0 = 0 ∧ o1 = 0) ∨ (i = .int .i64 3 ∧ o0 = 0 ∧ o1 = 0 ∧ o2 = 0)
def LRel (xs ys : List (List UInt8)) (w : World) (i : Value) (wr : World) : Prop := ∃ k q : Nat, k ≤ xs.length ∧ k ≤ ys.length ∧ i = .int .i64 (k : Int) ∧ lcmp xs ys = lcmp (xs.drop k) (ys.drop k) ∧ wr = w.drewN q
set_option maxRecDepth 100000 in
set_option maxHeartbeats 1000000 in
theorem refCmp_any (a b c : Int) (p : ByteArray) (a' b' c' : Int) (p' : ByteArray) (w : World) (hp : p.size ≤ 300) (hp' : p'.size ≤ 300) :
  Calls Tryz.prog 37 #[.agg #[.int .i64 a, .int .i64 b, .int .i64 c, .string p], .agg #[.int .i64 a', .int .i64 b', .int .i64 c', .string p']] w fun e w' =>
   e = .returned (.int .i64 (cmpV a b c p.data.toList a' b' c' p'.data.toList)) ∧ Below w.heap.size w w' := by
 obtain ⟨o0, h0⟩ : ∃ o, ord a a' = o := ⟨_, rfl⟩
 obtain ⟨o1, h1⟩ : ∃ o, ord b b' = o := ⟨_, rfl⟩
 obtain ⟨o2, h2⟩ : ∃ o, ord c c' = o := ⟨_, rfl⟩
 have HV : Hid (cmpV a b c p.data.toList a' b' c' p'.data.toList = or2 (or2 o0 (or2 o1 o2)) (cmpPre p.data.toList p'.data.toList)) := by
  show _ = _
  unfold cmpV cmp3; rw [h0, h1, h2]
 have H0 := Lib.hid h0
 have H1 := Lib.hid h1
 have H2 := Lib.hid h2
 clear h0 h1 h2
 have hW := (((Below.refl w.heap.size w).alloc (Nat.le_refl _) (.cells #[.int .i64 a, .int .i64 b, .int .i64 c, .string p] 41)).alloc (by simp) (.cells #[.int .i64 a', .int .i64 b', .int .i64 c', .string p'] 41)).alloc (by simp; omega) (.cells #[.int .i64 o0, .int .i64 o1, .int .i64 o2] 3)
 go_enter Tryz.func37, Tryz.ntmps37
 go_wp2_with fail
 refine region_still_tail 15 (by kernel_rfl) (by kernel_rfl) ?_
 simp only [List.take_succ_cons, List.take_zero, List.drop_succ_cons, List.drop_zero]
 repeat still_step
 still_call (order_still _ _ _ H0.out _)
 repeat still_step
 still_call (order_still _ _ _ H1.out _)
 repeat still_step
 still_call (order_still _ _ _ H2.out _)
 repeat still_step
 refine wpStill_nil ?_
 go_wp2_with fail
 go_loop [6] (fun i => C3Rel o0 o1 o2 i) (fun i => 3 - (intOf i).toNat)
 case atStart => exact .inl rfl
 case round =>
  rcases hrel with rfl | ⟨rfl, hz0⟩ | ⟨rfl, hz0, hz1⟩ | ⟨rfl, hz0, hz1, hz2⟩
  ·by_cases hz : o0 = 0
   ·subst hz
    go_wp2_with fail
    go_round
    case rel => exact .inr (.inl ⟨rfl, rfl⟩)
    case measure => simp [intOf]
   ·have q : (o0 != 0) = true := by simpa using hz
    have HE := Lib.hid (show cmpV a b c p.data.toList a' b' c' p'.data.toList = o0 by rw [HV.out, or2_ne (a := o0) hz, or2_ne hz])
    clear hz
    go_wp2_with fail
    go_ret
    exact ⟨by rw [HE.out]; rfl, hW.drew⟩
  ·subst hz0
   by_cases hz : o1 = 0
   ·subst hz
    go_wp2_with fail
    go_round
    case rel => exact .inr (.inr (.inl ⟨rfl, rfl, rfl⟩))
    case measure => simp [intOf]
   ·have q : (o1 != 0) = true := by simpa using hz
    have HE := Lib.hid (show cmpV a b c p.data.toList a' b' c' p'.data.toList = o1 by rw [HV.out, or2_zero, or2_ne (a := o1) hz, or2_ne hz])
    clear hz
    go_wp2_with fail
    go_ret
    exact ⟨by rw [HE.out]; rfl, hW.drew⟩
  ·subst hz0 hz1
   by_cases hz : o2 = 0
   ·subst hz
    go_wp2_with fail
    go_round
    case rel => exact .inr (.inr (.inr ⟨rfl, rfl, rfl, rfl⟩))
    case measure => simp [intOf]
   ·have q : (o2 != 0) = true := by simpa using hz
    have HE := Lib.hid (show cmpV a b c p.data.toList a' b' c' p'.data.toList = o2 by rw [HV.out, or2_zero, or2_zero, or2_ne hz])
    clear hz
    go_wp2_with fail
    go_ret
    exact ⟨by rw [HE.out]; rfl, hW.drew⟩
  ·subst hz0 hz1 hz2
   have hV := HV.out
   rw [or2_zero, or2_zero, or2_zero] at hV
   have z1 : p.toList.isEmpty = decide (p.size = 0) := by rw [Lib.toList_data, Lib.size_eq]; cases p.data.toList <;> simp
   have z2 : p'.toList.isEmpty = decide (p'.size = 0) := by rw [Lib.toList_data, Lib.size_eq]; cases p'.data.toList <;> simp
   cases hem : p.toList.isEmpty <;> cases hem' : p'.toList.isEmpty
   ·have HE : Hid (cmpV a b c p.data.toList a' b' c' p'.data.toList = lcmp (Sem4.dots p.data.toList) (Sem4.dots p'.data.toList)) := by
     show _ = _
     rw [hV]; unfold cmpPre; rw [← Lib.toList_data, ← Lib.toList_data, hem, hem']; rfl
    clear hV z1 z2
    go_wp2_with fail
    go_upto_region 9 with fail
    go_cut [7, 8] (fun v u wx => Strs wx v (Sem4.dots p.data.toList) ∧ Strs wx u (Sem4.dots p'.data.toList) ∧ Below w.heap.size w wx)
    case first =>
     go_region_held3 (fun w' => w'.cell? ⟨w.heap.size, 3, none⟩ = some (.string p) ∧ w'.cell? ⟨w.heap.size + 1, 3, none⟩ = some (.string p')) (go_keep)
      (first
       | (go_at_call_of 66 (Value.string p); refine (refParts_keep p _ (by omega) w.heap.size _ _ (by assumption)).mono ?_; rintro e w1 ⟨v1, rfl, hv1, hb1, hk1⟩)
       | (go_at_call_of 66 (Value.string p'); refine (refParts_keep p' _ (by omega) w.heap.size _ _ (by assumption)).mono ?_; rintro e w2 ⟨v2, rfl, hv2, hb2, hk2⟩))
     all_goals (go_wp2_with fail; go_meet; first | exact ⟨hv1.below hb2 (Nat.le_refl _), hv2, below_then (below_then hW.drew.drew hb1) hb2⟩ | exact ⟨hv1, hv2.below hb1 (Nat.le_refl _), below_then (below_then hW.drew.drew hb2) hb1⟩)
    case rest =>
     obtain ⟨hv, hu, hbw⟩ := hcut
     obtain ⟨xs, hxs⟩ : ∃ xs, Sem4.dots p.data.toList = xs := ⟨_, rfl⟩
     obtain ⟨ys, hys⟩ : ∃ ys, Sem4.dots p'.data.toList = ys := ⟨_, rfl⟩
     have hx0 : 0 < xs.length := by rw [← hxs]; exact List.length_pos_iff.2 (Sem4.dots_ne _)
     have hy0 : 0 < ys.length := by rw [← hys]; exact List.length_pos_iff.2 (Sem4.dots_ne _)
     have hx1 : xs.length ≤ 301 := by have := dots_len p.data.toList; rw [hxs, ← Lib.size_eq] at this; omega
     have hy1 : ys.length ≤ 301 := by have := dots_len p'.data.toList; rw [hys, ← Lib.size_eq] at this; omega
     have HXs := Lib.hid (show ∀ l ∈ xs, l.length ≤ 300 from fun l hl => by rw [← hxs] at hl; have := dots_part_size _ l hl; rw [← Lib.size_eq] at this; omega)
     have HYs := Lib.hid (show ∀ l ∈ ys, l.length ≤ 300 from fun l hl => by rw [← hys] at hl; have := dots_part_size _ l hl; rw [← Lib.size_eq] at this; omega)
     rw [hxs] at hv
     rw [hys] at hu
     obtain ⟨bx, ox, capx, rfl, _, hcx⟩ := hv.full hx0
     obtain ⟨by', oy, capy, rfl, _, hcy⟩ := hu.full hy0
     have HE2 : Hid (cmpV a b c p.data.toList a' b' c' p'.data.toList = lcmp xs ys) := by
      show _ = _
      rw [HE.out, hxs, hys]
     have HCX := Lib.hid hcx
     have HCY := Lib.hid hcy
     clear hcx hcy hv hu hxs hys HE
     go_wp2_with fail
     go_loopw [10, 9] (fun _ i wr => LRel xs ys wc i wr) (fun _ i _ => xs.length - (intOf i).toNat)
     case atStart => exact ⟨0, 0, Nat.zero_le _, Nat.zero_le _, rfl, rfl, rfl⟩
     case round =>
      obtain ⟨k, q, hkx, hky, rfl, hl, rfl⟩ := hrel
      have HL := Lib.hid hl
      clear hl
      by_cases hx : k < xs.length
      ·have i1 : (k : Int) < (xs.length : Int) := by omega
       have i0 : (0 : Int) ≤ (k : Int) := by omega
       by_cases hy : k < ys.length
       ·have i2 : (k : Int) < (ys.length : Int) := by omega
        have cx := HCX.out k hx
        have cy := HCY.out k hy
        obtain ⟨r, hr⟩ : ∃ r, partsCmp xs[k] ys[k] = r := ⟨_, rfl⟩
        have HR := Lib.hid hr
        have HS := Lib.hid (lcmp_step hx hy)
        have s1 := HXs.out _ (List.getElem_mem hx)
        have s2 := HYs.out _ (List.getElem_mem hy)
        clear hr
        go_wp2_with fail
        go_quiet ((go_at_call 70; first | exact Calls.quiet_of_same (parts_still _ _ _ HR.out _ (by omega) (by omega)) | exact quiet_same2 (parts_still _ _ _ HR.out _ (by omega) (by omega))))
        by_cases hz : r = 0
        ·have hq : (r != 0) = false := by simpa using hz
         have HZ := Lib.hid hz
         clear hz
         go_wp2_with fail
         go_roundw
         case rel =>
          refine ⟨k + 1, _, hx, hy, by go_num, ?_, rfl⟩
          rw [HL.out, HS.out, HR.out, HZ.out, or2_zero]
         case measure => simp [intOf]; omega
        ·have hq : (r != 0) = true := by simpa using hz
         have HF : Hid (cmpV a b c p.data.toList a' b' c' p'.data.toList = r) := by
          show _ = _
          rw [HE2.out, HL.out, HS.out, HR.out, or2_ne hz]
         clear hz
         go_wp2_with fail
         go_ret
         exact ⟨by rw [HF.out]; rfl, below_drewN hbw _⟩
       ·have i2 : decide (k < ys.length) = false := by simp; omega
        have HO := Lib.hid (lcmp_end hkx hky (.inr (by omega)))
        clear hy
        go_wp2_with (go_at_call 68; go_must (refine (refOrder_any _ _ _).mono ?_); rintro e w1 ⟨rfl, rfl⟩)
        go_ret
        exact ⟨by rw [HE2.out, HL.out, HO.out]; rfl, below_drewN hbw _⟩
      ·have i1 : decide (k < xs.length) = false := by simp; omega
       have HO := Lib.hid (lcmp_end hkx hky (.inl (by omega)))
       clear hx
       go_wp2_with (go_at_call 68; go_must (refine (refOrder_any _ _ _).mono ?_); rintro e w1 ⟨rfl, rfl⟩)
       go_ret
       exact ⟨by rw [HE2.out, HL.out, HO.out]; rfl, below_drewN hbw _⟩
   ·have hz : p'.size = 0 := by rw [hem'] at z2; simpa using z2
    have hnz : p.size ≠ 0 := by rw [hem] at z1; simpa using z1
    have HO := Lib.hid (show ord (p'.size : Int) (p.size : Int) = -1 from ord_lt (by omega))
    have HN : Hid (nonz p.data.toList p'.data.toList = 1) := by show _ = _; unfold nonz; rw [← Lib.toList_data, ← Lib.toList_data, hem, hem']; rfl
    have HE : Hid (cmpV a b c p.data.toList a' b' c' p'.data.toList = -1) := by
     show _ = _
     rw [hV]; unfold cmpPre; rw [← Lib.toList_data, ← Lib.toList_data, hem, hem']; rfl
    clear hz hnz hV z1 z2
    go_wp2_with fail
    go_quiet ((first | (go_at_call 68; exact quiet_same2 (order_still _ _ _ HO.out _)) | (go_at_call 69; exact quiet_same2 (nonz_still _ _ _ HN.out _))))
    go_wp2_with fail
    go_ret
    exact ⟨by rw [HE.out]; rfl, below_drewN hW.drew _⟩
   ·have hz : p.size = 0 := by rw [hem] at z1; simpa using z1
    have hnz : p'.size ≠ 0 := by rw [hem'] at z2; simpa using z2
    have HO := Lib.hid (show ord (p'.size : Int) (p.size : Int) = 1 from ord_gt (by omega))
    have HN : Hid (nonz p.data.toList p'.data.toList = 1) := by show _ = _; unfold nonz; rw [← Lib.toList_data, ← Lib.toList_data, hem, hem']; rfl
    have HE : Hid (cmpV a b c p.data.toList a' b' c' p'.data.toList = 1) := by
     show _ = _
     rw [hV]; unfold cmpPre; rw [← Lib.toList_data, ← Lib.toList_data, hem, hem']; rfl
    clear hz hnz hV z1 z2
    go_wp2_with fail
    go_quiet ((first | (go_at_call 68; exact quiet_same2 (order_still _ _ _ HO.out _)) | (go_at_call 69; exact quiet_same2 (nonz_still _ _ _ HN.out _))))
    go_wp2_with fail
    go_ret
    exact ⟨by rw [HE.out]; rfl, below_drewN hW.drew _⟩
   ·have hz : p.size = 0 := by rw [hem] at z1; simpa using z1
    have hz' : p'.size = 0 := by rw [hem'] at z2; simpa using z2
    have HO := Lib.hid (show ord (p'.size : Int) (p.size : Int) = 0 by rw [hz, hz']; exact ord_eq _)
    have HN : Hid (nonz p.data.toList p'.data.toList = 0) := by show _ = _; unfold nonz; rw [← Lib.toList_data, ← Lib.toList_data, hem, hem']; rfl
    have HE : Hid (cmpV a b c p.data.toList a' b' c' p'.data.toList = 0) := by
     show _ = _
     rw [hV]; unfold cmpPre; rw [← Lib.toList_data, ← Lib.toList_data, hem, hem']; rfl
    clear hz hz' hV z1 z2
    go_wp2_with fail
    go_quiet ((first | (go_at_call 68; exact quiet_same2 (order_still _ _ _ HO.out _)) | (go_at_call 69; exact quiet_same2 (nonz_still _ _ _ HN.out _))))
    go_wp2_with fail
    go_ret
    exact ⟨by rw [HE.out]; rfl, below_drewN hW.drew _⟩
end Go.Proofs.YtbgimpeklblcjaaGreatDoor
