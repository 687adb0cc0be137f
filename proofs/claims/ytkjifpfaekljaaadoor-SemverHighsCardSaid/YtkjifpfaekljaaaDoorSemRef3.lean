/- The reference of layer 4: part: a walk. -/
import Derived.Test.YtkjifpfaekljaaaDoorSemRef2
namespace Go.Proofs.YtkjifpfaekljaaaDoor
open Go.RowKit
def PartRel (s : ByteArray) (i : Value) : Prop := ∃ k : Nat, k ≤ s.size ∧ i = .int .i64 (k : Int) ∧ (s.data.toList.take k).all Sem4.partCh = true
theorem digits_as (s : ByteArray) (b : Bool) (h : Sem4.digits s.data.toList = b) (w : World) (hs : s.size ≤ 9223372036854775807) :
    Calls Tryd.prog 44 #[.string s] w fun e w' => e = .returned (.bool b) ∧ w = w' := by
  subst h; exact refDigits_any s w hs
theorem part_no (s : ByteArray) (k : Nat) (h : k < s.size) (x : UInt8) (hx : s[k] = x) (hc : Sem4.partCh x = false) : Sem4.part s.data.toList = false := by
  unfold Sem4.part
  have : s.data.toList.all Sem4.partCh = false := by
    rw [List.all_eq_false]
    refine ⟨x, ?_, by simp [hc]⟩
    have : x ∈ s.data.toList.take (k + 1) := by rw [take_byte s k h, hx]; simp
    exact List.mem_of_mem_take this
  rw [this]; simp
theorem part_yes (s : ByteArray) (h : s.data.toList.all Sem4.partCh = true) : Sem4.part s.data.toList = (!s.data.toList.isEmpty && (!Sem4.digits s.data.toList || decide (s.data.toList = [48]) || decide (s.data.toList.head? ≠ some 48))) := by
  unfold Sem4.part; rw [h]; simp
set_option maxRecDepth 100000 in
set_option maxHeartbeats 2000000 in
theorem refPart_any (s : ByteArray) (w : World) (hs : s.size ≤ 9223372036854775807) :
    Calls Tryd.prog 31 #[.string s] w fun e w' => e = .returned (.bool (Sem4.part s.data.toList)) ∧ w = w' := by
  go_enter Tryd.func31, Tryd.ntmps31
  go_wp2_with fail
  go_loop [3, 4, 5] (fun i _ _ => PartRel s i) (fun i _ _ => s.size - (intOf i).toNat)
  case atStart => exact ⟨0, Nat.zero_le _, rfl, rfl⟩
  case round =>
    obtain ⟨k, hk, rfl, hall⟩ := hrel
    have HA := Lib.hid hall
    clear hall
    by_cases hlt : k < s.size
    · have HT := Lib.hid (take_byte s k hlt)
      obtain ⟨x, hx⟩ : ∃ x, s[k] = x := ⟨_, rfl⟩
      rw [hx] at HT
      rcases (show (x.toNat < 45) ∨ (x.toNat = 45) ∨ (46 ≤ x.toNat ∧ x.toNat < 48) ∨ (48 ≤ x.toNat ∧ x.toNat ≤ 57) ∨ (58 ≤ x.toNat ∧ x.toNat < 65) ∨ (65 ≤ x.toNat ∧ x.toNat ≤ 90) ∨ (91 ≤ x.toNat ∧ x.toNat < 97) ∨ (97 ≤ x.toNat ∧ x.toNat ≤ 122) ∨ (123 ≤ x.toNat) by omega) with hc | hc | hc | hc | hc | hc | hc | hc | hc
      · skip
        have q97 : decide ((97 : Int) ≤ (x.toNat : Int)) = false := by simp; omega
        have q122 : decide ((x.toNat : Int) ≤ (122 : Int)) = true := by simp; omega
        have q65 : decide ((65 : Int) ≤ (x.toNat : Int)) = false := by simp; omega
        have q90 : decide ((x.toNat : Int) ≤ (90 : Int)) = true := by simp; omega
        have q45 : ((x.toNat : Int) != 45) = true := by simp; omega
        have q48 : decide ((x.toNat : Int) < (48 : Int)) = true := by simp; omega
        have q57 : decide ((57 : Int) < (x.toNat : Int)) = false := by simp; omega
        have HE := Lib.hid (part_no s k hlt x hx (by simp [Sem4.partCh, Sem4.isDig]; omega))
        clear hc
        go_wp2_with fail
        go_ret
        exact ⟨by rw [HE.out]; rfl, rfl⟩
      · skip
        have q97 : decide ((97 : Int) ≤ (x.toNat : Int)) = false := by simp; omega
        have q122 : decide ((x.toNat : Int) ≤ (122 : Int)) = true := by simp; omega
        have q65 : decide ((65 : Int) ≤ (x.toNat : Int)) = false := by simp; omega
        have q90 : decide ((x.toNat : Int) ≤ (90 : Int)) = true := by simp; omega
        have q45 : ((x.toNat : Int) != 45) = false := by simp; omega
        have q48 : decide ((x.toNat : Int) < (48 : Int)) = true := by simp; omega
        have q57 : decide ((57 : Int) < (x.toNat : Int)) = false := by simp; omega
        have HD : Hid (Sem4.partCh x = true) := by
          show _ = _
          simp [Sem4.partCh, Sem4.isDig]; omega
        clear hc
        go_wp2_with fail
        go_round
        case rel => exact ⟨k + 1, by omega, by go_num, by rw [HT.out, List.all_append, HA.out]; simp [HD.out]⟩
        case measure => simp [intOf]; omega
      · skip
        have q97 : decide ((97 : Int) ≤ (x.toNat : Int)) = false := by simp; omega
        have q122 : decide ((x.toNat : Int) ≤ (122 : Int)) = true := by simp; omega
        have q65 : decide ((65 : Int) ≤ (x.toNat : Int)) = false := by simp; omega
        have q90 : decide ((x.toNat : Int) ≤ (90 : Int)) = true := by simp; omega
        have q45 : ((x.toNat : Int) != 45) = true := by simp; omega
        have q48 : decide ((x.toNat : Int) < (48 : Int)) = true := by simp; omega
        have q57 : decide ((57 : Int) < (x.toNat : Int)) = false := by simp; omega
        have HE := Lib.hid (part_no s k hlt x hx (by simp [Sem4.partCh, Sem4.isDig]; omega))
        clear hc
        go_wp2_with fail
        go_ret
        exact ⟨by rw [HE.out]; rfl, rfl⟩
      · skip
        have q97 : decide ((97 : Int) ≤ (x.toNat : Int)) = false := by simp; omega
        have q122 : decide ((x.toNat : Int) ≤ (122 : Int)) = true := by simp; omega
        have q65 : decide ((65 : Int) ≤ (x.toNat : Int)) = false := by simp; omega
        have q90 : decide ((x.toNat : Int) ≤ (90 : Int)) = true := by simp; omega
        have q45 : ((x.toNat : Int) != 45) = true := by simp; omega
        have q48 : decide ((x.toNat : Int) < (48 : Int)) = false := by simp; omega
        have q57 : decide ((57 : Int) < (x.toNat : Int)) = false := by simp; omega
        have HD : Hid (Sem4.partCh x = true) := by
          show _ = _
          simp [Sem4.partCh, Sem4.isDig]; omega
        clear hc
        go_wp2_with fail
        go_round
        case rel => exact ⟨k + 1, by omega, by go_num, by rw [HT.out, List.all_append, HA.out]; simp [HD.out]⟩
        case measure => simp [intOf]; omega
      · skip
        have q97 : decide ((97 : Int) ≤ (x.toNat : Int)) = false := by simp; omega
        have q122 : decide ((x.toNat : Int) ≤ (122 : Int)) = true := by simp; omega
        have q65 : decide ((65 : Int) ≤ (x.toNat : Int)) = false := by simp; omega
        have q90 : decide ((x.toNat : Int) ≤ (90 : Int)) = true := by simp; omega
        have q45 : ((x.toNat : Int) != 45) = true := by simp; omega
        have q48 : decide ((x.toNat : Int) < (48 : Int)) = false := by simp; omega
        have q57 : decide ((57 : Int) < (x.toNat : Int)) = true := by simp; omega
        have HE := Lib.hid (part_no s k hlt x hx (by simp [Sem4.partCh, Sem4.isDig]; omega))
        clear hc
        go_wp2_with fail
        go_ret
        exact ⟨by rw [HE.out]; rfl, rfl⟩
      · skip
        have q97 : decide ((97 : Int) ≤ (x.toNat : Int)) = false := by simp; omega
        have q122 : decide ((x.toNat : Int) ≤ (122 : Int)) = true := by simp; omega
        have q65 : decide ((65 : Int) ≤ (x.toNat : Int)) = true := by simp; omega
        have q90 : decide ((x.toNat : Int) ≤ (90 : Int)) = true := by simp; omega
        have q45 : ((x.toNat : Int) != 45) = true := by simp; omega
        have q48 : decide ((x.toNat : Int) < (48 : Int)) = false := by simp; omega
        have q57 : decide ((57 : Int) < (x.toNat : Int)) = true := by simp; omega
        have HD : Hid (Sem4.partCh x = true) := by
          show _ = _
          simp [Sem4.partCh, Sem4.isDig]; omega
        clear hc
        go_wp2_with fail
        go_round
        case rel => exact ⟨k + 1, by omega, by go_num, by rw [HT.out, List.all_append, HA.out]; simp [HD.out]⟩
        case measure => simp [intOf]; omega
      · skip
        have q97 : decide ((97 : Int) ≤ (x.toNat : Int)) = false := by simp; omega
        have q122 : decide ((x.toNat : Int) ≤ (122 : Int)) = true := by simp; omega
        have q65 : decide ((65 : Int) ≤ (x.toNat : Int)) = true := by simp; omega
        have q90 : decide ((x.toNat : Int) ≤ (90 : Int)) = false := by simp; omega
        have q45 : ((x.toNat : Int) != 45) = true := by simp; omega
        have q48 : decide ((x.toNat : Int) < (48 : Int)) = false := by simp; omega
        have q57 : decide ((57 : Int) < (x.toNat : Int)) = true := by simp; omega
        have HE := Lib.hid (part_no s k hlt x hx (by simp [Sem4.partCh, Sem4.isDig]; omega))
        clear hc
        go_wp2_with fail
        go_ret
        exact ⟨by rw [HE.out]; rfl, rfl⟩
      · skip
        have q97 : decide ((97 : Int) ≤ (x.toNat : Int)) = true := by simp; omega
        have q122 : decide ((x.toNat : Int) ≤ (122 : Int)) = true := by simp; omega
        have q65 : decide ((65 : Int) ≤ (x.toNat : Int)) = true := by simp; omega
        have q90 : decide ((x.toNat : Int) ≤ (90 : Int)) = false := by simp; omega
        have q45 : ((x.toNat : Int) != 45) = true := by simp; omega
        have q48 : decide ((x.toNat : Int) < (48 : Int)) = false := by simp; omega
        have q57 : decide ((57 : Int) < (x.toNat : Int)) = true := by simp; omega
        have HD : Hid (Sem4.partCh x = true) := by
          show _ = _
          simp [Sem4.partCh, Sem4.isDig]; omega
        clear hc
        go_wp2_with fail
        go_round
        case rel => exact ⟨k + 1, by omega, by go_num, by rw [HT.out, List.all_append, HA.out]; simp [HD.out]⟩
        case measure => simp [intOf]; omega
      · skip
        have q97 : decide ((97 : Int) ≤ (x.toNat : Int)) = true := by simp; omega
        have q122 : decide ((x.toNat : Int) ≤ (122 : Int)) = false := by simp; omega
        have q65 : decide ((65 : Int) ≤ (x.toNat : Int)) = true := by simp; omega
        have q90 : decide ((x.toNat : Int) ≤ (90 : Int)) = false := by simp; omega
        have q45 : ((x.toNat : Int) != 45) = true := by simp; omega
        have q48 : decide ((x.toNat : Int) < (48 : Int)) = false := by simp; omega
        have q57 : decide ((57 : Int) < (x.toNat : Int)) = true := by simp; omega
        have HE := Lib.hid (part_no s k hlt x hx (by simp [Sem4.partCh, Sem4.isDig]; omega))
        clear hc
        go_wp2_with fail
        go_ret
        exact ⟨by rw [HE.out]; rfl, rfl⟩
    · obtain rfl : k = s.size := by omega
      have hall : s.data.toList.all Sem4.partCh = true := by
        have := HA.out
        rwa [List.take_of_length_le (by rw [← Lib.size_eq]; exact Nat.le_refl _)] at this
      have hP := part_yes s hall
      clear hall
      by_cases h0 : s.size = 0
      · have hl : s.data.toList = [] := List.eq_nil_of_length_eq_zero (by rw [← Lib.size_eq]; exact h0)
        have hne : s.toList.isEmpty = true := by rw [Lib.toList_data, hl]; rfl
        have HE : Hid (Sem4.part s.data.toList = false) := by show _ = _; rw [hP, hl]; rfl
        clear hP h0 hl
        go_wp2_with fail
        go_ret
        exact ⟨by rw [HE.out]; rfl, rfl⟩
      have h1 : 0 < s.size := by omega
      have hlne : s.data.toList ≠ [] := by
        intro e; have := congrArg List.length e; rw [← Lib.size_eq, List.length_nil] at this; omega
      have hne : s.toList.isEmpty = false := by
        rw [Lib.toList_data]; cases h : s.data.toList with
        | nil => exact absurd h hlne
        | cons _ _ => rfl
      have hem : s.data.toList.isEmpty = false := by rw [← Lib.toList_data]; exact hne
      have h1i : (0 : Int) < (s.size : Int) := by omega
      obtain ⟨x0, hx0⟩ : ∃ x0, s[0] = x0 := ⟨_, rfl⟩
      have hhead : s.data.toList.head? = some x0 := by
        rw [List.head?_eq_getElem?, List.getElem?_eq_getElem (by rw [← Lib.size_eq]; exact h1)]
        exact congrArg some hx0
      rw [hem, hhead] at hP
      clear h0 hlne hem
      cases hd : Sem4.digits s.data.toList
      · have HE : Hid (Sem4.part s.data.toList = true) := by show _ = _; rw [hP, hd]; rfl
        have HD := Lib.hid hd
        clear hP hd hhead
        go_wp2_with (go_at_call 44; go_must (refine (digits_as _ false HD.out _ hs).mono ?_); rintro e w1 ⟨rfl, rfl⟩)
        go_ret
        exact ⟨by rw [HE.out]; rfl, rfl⟩
      have HD := Lib.hid hd
      rw [hd] at hP
      clear hd
      by_cases he : s.data.toList = [48]
      · have q1 : (s.toList == [48]) = true := by rw [Lib.toList_data, he]; rfl
        have HE : Hid (Sem4.part s.data.toList = true) := by show _ = _; rw [hP]; simp [he]
        clear hP hhead he
        go_wp2_with (go_at_call 44; go_must (refine (digits_as _ true HD.out _ hs).mono ?_); rintro e w1 ⟨rfl, rfl⟩)
        go_ret
        exact ⟨by rw [HE.out]; rfl, rfl⟩
      have q1 : (s.toList == [48]) = false := by rw [Lib.toList_data]; simpa using he
      by_cases hx : x0.toNat = 48
      · have q2 : ((x0.toNat : Int) != 48) = false := by simp; omega
        have HE : Hid (Sem4.part s.data.toList = false) := by
          show _ = _
          have : x0 = 48 := UInt8.toNat_inj.1 hx
          rw [hP]; simp [he, this]
        clear hP hhead he hx
        go_wp2_with (go_at_call 44; go_must (refine (digits_as _ true HD.out _ hs).mono ?_); rintro e w1 ⟨rfl, rfl⟩)
        go_ret
        exact ⟨by rw [HE.out]; rfl, rfl⟩
      · have q2 : ((x0.toNat : Int) != 48) = true := by simp; omega
        have HE : Hid (Sem4.part s.data.toList = true) := by
          show _ = _
          have : x0 ≠ 48 := fun e => hx (by rw [e]; rfl)
          rw [hP]; simp [this]
        clear hP hhead he hx
        go_wp2_with (go_at_call 44; go_must (refine (digits_as _ true HD.out _ hs).mono ?_); rintro e w1 ⟨rfl, rfl⟩)
        go_ret
        exact ⟨by rw [HE.out]; rfl, rfl⟩
end Go.Proofs.YtkjifpfaekljaaaDoor
