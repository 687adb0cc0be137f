/- The program's versions: digits, part: walks. -/
import Derived.Test.YtbihdgnhdlpmgaaGreatDoorSemLib
namespace Go.Proofs.YtbihdgnhdlpmgaaGreatDoor
open Go.RowKit
set_option maxRecDepth 100000 in
set_option maxHeartbeats 1000000 in
theorem digits_any (s : ByteArray) (b : Bool) (h : Sem4.digits s.data.toList = b) (w : World) (hs : s.size ≤ 9223372036854775807) :
    Calls Tryz.prog 75 #[.string s] w fun e w' => e = .returned (.bool b) ∧ Below w.heap.size w w' := by
  have H : Hid (Sem4.digits s.data.toList = (!s.toList.isEmpty && s.data.toList.all Sem4.isDig)) := by
    show _ = _
    unfold Sem4.digits; rw [Lib.toList_data]
  have HB := Lib.hid h
  clear h
  cases hem : s.toList.isEmpty
  · cases hal : s.data.toList.all Sem4.isDig
    all_goals
      have HE : Hid (b = _) := HB.out.symm.trans (H.out.trans (by rw [hem, hal]))
      have HA := Lib.hid hal
      clear hal
      go_enter Tryz.func75, Tryz.ntmps75
      go_wp2_with fail
      refine (trim_any s _ hs).mono ?_
      rintro e w1 ⟨t, rfl, ht, hb⟩
      rw [HA.out] at ht
      go_wp2_with fail
      go_ret
      exact ⟨by rw [HE.out]; rfl, hb⟩
  · have HE : Hid (b = _) := HB.out.symm.trans (H.out.trans (by rw [hem]))
    go_enter Tryz.func75, Tryz.ntmps75
    go_wp2_with fail
    go_ret
    exact ⟨by rw [HE.out]; rfl, Below.refl _ _⟩
theorem head_byte (s : ByteArray) (h : 0 < s.size) : s.data.toList.head? = some s[0] := by
  rw [List.head?_eq_getElem?, List.getElem?_eq_getElem (by rw [← Lib.size_eq]; exact h)]; rfl
theorem partCh_iff (x : UInt8) : Sem4.partCh x = true ↔ (48 ≤ x.toNat ∧ x.toNat ≤ 57) ∨ (97 ≤ x.toNat ∧ x.toNat ≤ 122) ∨ (65 ≤ x.toNat ∧ x.toNat ≤ 90) ∨ x.toNat = 45 := by
  simp [Sem4.partCh, Sem4.isDig]; omega
/-- what part asks ahead of its loop -/
def partHead (l : List UInt8) : Bool := !l.isEmpty && (!Sem4.digits l || decide (l = [48]) || decide (l.head? ≠ some 48))
theorem part_head (l : List UInt8) : Sem4.part l = (partHead l && l.all Sem4.partCh) := by
  unfold Sem4.part partHead
  cases l.isEmpty <;> cases l.all Sem4.partCh <;> simp
set_option maxRecDepth 100000 in
set_option maxHeartbeats 2000000 in
theorem part_any (s : ByteArray) (w : World) (hs : s.size ≤ 9223372036854775807) :
    Calls Tryz.prog 51 #[.string s] w fun e w' => e = .returned (.bool (Sem4.part s.data.toList)) ∧ Below w.heap.size w w' := by
  cases hh : partHead s.data.toList
  · have HE : Hid (Sem4.part s.data.toList = false) := by show _ = _; rw [part_head, hh]; rfl
    cases hem : s.toList.isEmpty
    · have hne : s.data.toList ≠ [] := by rw [Lib.toList_data] at hem; intro e; rw [e] at hem; cases hem
      have hsz : 0 < s.size := by rw [Lib.size_eq]; exact List.length_pos_iff.2 hne
      have hsi : (0 : Int) < (s.size : Int) := by omega
      have hd : Sem4.digits s.data.toList = true := by
        unfold partHead at hh
        rw [Lib.toList_data] at hem
        cases hd : Sem4.digits s.data.toList <;> simp_all
      have h48 : s.data.toList ≠ [48] := by
        intro e; rw [e] at hh; revert hh; decide
      have q1 : (s.toList == [48]) = false := by rw [Lib.toList_data]; simpa using h48
      obtain ⟨x0, hx0⟩ : ∃ x0, s[0] = x0 := ⟨_, rfl⟩
      have hx : x0.toNat = 48 := by
        have h1 := head_byte s hsz
        rw [hx0] at h1
        unfold partHead at hh
        rw [Lib.toList_data] at hem
        rw [hem, hd, h1] at hh
        have : x0 = 48 := by simpa [h48] using hh
        rw [this]; rfl
      have q2 : ((x0.toNat : Int) == 48) = true := by simp; omega
      have HD := Lib.hid hd
      clear hd h48 hx hne hh
      go_enter Tryz.func51, Tryz.ntmps51
      go_wp2_with fail
      refine (digits_any s true HD.out _ (by omega)).mono ?_
      rintro e w1 ⟨rfl, hb⟩
      go_wp2_with fail
      go_ret
      exact ⟨by rw [HE.out]; rfl, hb⟩
    · clear hh
      go_enter Tryz.func51, Tryz.ntmps51
      go_wp2_with fail
      go_ret
      exact ⟨by rw [HE.out]; rfl, Below.refl _ _⟩
  · have HE : Hid (Sem4.part s.data.toList = s.data.toList.all Sem4.partCh) := by show _ = _; rw [part_head, hh]; rfl
    have hne : s.data.toList ≠ [] := by intro e; rw [e] at hh; revert hh; decide
    have hem : s.toList.isEmpty = false := by
      rw [Lib.toList_data]
      cases h : s.data.toList with
      | nil => exact absurd h hne
      | cons _ _ => rfl
    have hsz : 0 < s.size := by rw [Lib.size_eq]; exact List.length_pos_iff.2 hne
    have hsi : (0 : Int) < (s.size : Int) := by omega
    obtain ⟨x0, hx0⟩ : ∃ x0, s[0] = x0 := ⟨_, rfl⟩
    have h1 := head_byte s hsz
    rw [hx0] at h1
    have hcase : Sem4.digits s.data.toList = false ∨ (Sem4.digits s.data.toList = true ∧ ((x0.toNat : Int) == 48) = false) ∨ (Sem4.digits s.data.toList = true ∧ ((x0.toNat : Int) == 48) = true ∧ (s.toList == [48]) = true) := by
      cases hd : Sem4.digits s.data.toList
      · exact .inl rfl
      · cases hq : ((x0.toNat : Int) == 48)
        · exact .inr (.inl ⟨rfl, rfl⟩)
        · refine .inr (.inr ⟨rfl, rfl, ?_⟩)
          have hx : x0 = 48 := by apply UInt8.toNat_inj.1; have := eq_of_beq hq; show x0.toNat = 48; omega
          unfold partHead at hh
          rw [hd, h1, hx] at hh
          rw [Lib.toList_data]
          simp at hh ⊢
          exact hh.2
    clear hh hne h1
    rcases hcase with hd | ⟨hd, q1⟩ | ⟨hd, q1, q2⟩
    all_goals
      have HD := Lib.hid hd
      clear hd
      go_enter Tryz.func51, Tryz.ntmps51
      go_wp2_with fail
      refine (digits_any s _ HD.out _ (by omega)).mono ?_
      rintro e w1 ⟨rfl, hb⟩
      go_wp2_with fail
      go_loop [3, 4, 22] (fun _ _ i => PartRel s i) (fun _ _ i => s.size - (intOf i).toNat)
      case atStart => exact ⟨0, Nat.zero_le _, rfl, rfl⟩
      case round =>
        obtain ⟨k, hk, rfl, hall⟩ := hrel
        have HA := Lib.hid hall
        clear hall
        by_cases hlt : k < s.size
        · have HT := Lib.hid (take_byte s k hlt)
          obtain ⟨x, hx⟩ : ∃ x, s[k] = x := ⟨_, rfl⟩
          rw [hx] at HT
          have HX : Hid (Sem4.partCh x = false → Sem4.part s.data.toList = false) := fun h => part_no s k hlt x hx h
          have HI := Lib.hid (partCh_iff x)
          have hx0 : (0 : Int) ≤ (x.toNat : Int) := by omega
          rcases (show ((x.toNat : Int) < 45) ∨ ((x.toNat : Int) ≤ 45 ∧ 45 ≤ (x.toNat : Int)) ∨ (46 ≤ (x.toNat : Int) ∧ (x.toNat : Int) < 48) ∨ (48 ≤ (x.toNat : Int) ∧ (x.toNat : Int) ≤ 57) ∨ (58 ≤ (x.toNat : Int) ∧ (x.toNat : Int) < 65) ∨ (65 ≤ (x.toNat : Int) ∧ (x.toNat : Int) ≤ 90) ∨ (91 ≤ (x.toNat : Int) ∧ (x.toNat : Int) < 97) ∨ (97 ≤ (x.toNat : Int) ∧ (x.toNat : Int) ≤ 122) ∨ (123 ≤ (x.toNat : Int)) by omega) with hc | ⟨hc, hc'⟩ | ⟨hc, hc'⟩ | ⟨hc, hc'⟩ | ⟨hc, hc'⟩ | ⟨hc, hc'⟩ | ⟨hc, hc'⟩ | ⟨hc, hc'⟩ | hc
          all_goals
            first
              | have q45 : ((x.toNat : Int) == 45) = true := by simp; omega
              | have q45 : ((x.toNat : Int) == 45) = false := by simp; omega
            first
              | have q57 : decide ((x.toNat : Int) ≤ 57) = true := by simp; omega
              | have q57 : decide ((x.toNat : Int) ≤ 57) = false := by simp; omega
            first
              | have q90 : decide ((x.toNat : Int) ≤ 90) = true := by simp; omega
              | have q90 : decide ((x.toNat : Int) ≤ 90) = false := by simp; omega
            first
              | have q122 : decide ((x.toNat : Int) ≤ 122) = true := by simp; omega
              | have q122 : decide ((x.toNat : Int) ≤ 122) = false := by simp; omega
            first
              | have q48 : decide (48 ≤ (x.toNat : Int)) = true := by simp; omega
              | have q48 : decide (48 ≤ (x.toNat : Int)) = false := by simp; omega
            first
              | have q65 : decide (65 ≤ (x.toNat : Int)) = true := by simp; omega
              | have q65 : decide (65 ≤ (x.toNat : Int)) = false := by simp; omega
            first
              | have q97 : decide (97 ≤ (x.toNat : Int)) = true := by simp; omega
              | have q97 : decide (97 ≤ (x.toNat : Int)) = false := by simp; omega
            first
              | have HP : Hid (Sem4.partCh x = true) := HI.out.2 (by omega)
              | have HP : Hid (Sem4.part s.data.toList = false) := HX.out (by rw [Bool.eq_false_iff]; intro h; have := HI.out.1 h; omega)
            clear hc
            go_wp2_with fail
            first
              | (go_round
                 case rel => exact ⟨k + 1, by omega, by go_num, by rw [HT.out, List.all_append, HA.out]; simp [HP.out]⟩
                 case measure => simp [intOf]; omega)
              | (go_ret
                 exact ⟨by rw [HP.out]; rfl, hb⟩)
        · have q : decide ((k : Int) < (s.size : Int)) = false := by simp; omega
          obtain rfl : k = s.size := by omega
          have HF : Hid (Sem4.part s.data.toList = true) := by
            show _ = _
            rw [HE.out]
            have := HA.out
            rwa [List.take_of_length_le (by rw [← Lib.size_eq]; exact Nat.le_refl _)] at this
          go_wp2_with fail
          go_ret
          exact ⟨by rw [HF.out]; rfl, hb⟩
end Go.Proofs.YtbihdgnhdlpmgaaGreatDoor
