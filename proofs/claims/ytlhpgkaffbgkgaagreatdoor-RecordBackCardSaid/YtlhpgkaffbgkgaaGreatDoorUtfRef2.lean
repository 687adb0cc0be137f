/- The reference's First: a walk. -/
import Derived.Test.YtlhpgkaffbgkgaaGreatDoorUtfRef1
namespace Go.Proofs.YtlhpgkaffbgkgaaGreatDoor
open Go.RowKit
/-- what First tells, as numbers -/
def firstP (s : ByteArray) : Int := (Utf.first s.data.toList).1
def firstN (s : ByteArray) : Int := ((Utf.first s.data.toList).2 : Nat)
theorem acc_bound (l : List UInt8) (p0 : Int) (h0 : 0 ≤ p0) (h1 : p0 < 256) (k : Nat) (hk : k ≤ 3) : -1000000 ≤ Utf.acc l p0 k ∧ Utf.acc l p0 k ≤ 100000000 := by
  have b1 := Utf.b_lt l 1
  have b2 := Utf.b_lt l 2
  have b3 := Utf.b_lt l 3
  match k, hk with
  | 0, _ => simp only [Utf.acc]; omega
  | 1, _ => simp only [Utf.acc, Nat.zero_add]; omega
  | 2, _ => simp only [Utf.acc, Nat.zero_add, Nat.reduceAdd]; omega
  | 3, _ => simp only [Utf.acc, Nat.zero_add, Nat.reduceAdd]; omega
theorem b_at (s : ByteArray) (i : Nat) (h : i < s.size) : Utf.b s.data.toList i = s[i].toNat := by
  unfold Utf.b
  rw [List.getD_eq_getElem?_getD, List.getElem?_eq_getElem (by simpa using h)]
  rfl
theorem point_t (p : Int) (w : World) (h : pointB p = true) : Calls Tryz.prog 87 #[.int .i64 p] w fun e w' => e = .returned (.bool true) ∧ w = w' := by
  have := point_any p w; rw [h] at this; exact this
theorem point_f (p : Int) (w : World) (h : pointB p = false) : Calls Tryz.prog 87 #[.int .i64 p] w fun e w' => e = .returned (.bool false) ∧ w = w' := by
  have := point_any p w; rw [h] at this; exact this
theorem point_f' (p : Int) (w : World) (h : pointB p = false) : Calls Tryz.prog 87 #[.int .i64 p] w fun e w' => e = .returned (.bool false) ∧ w' = w :=
  (point_f p w h).mono fun _ _ ⟨h1, h2⟩ => ⟨h1, h2.symm⟩
/-- what holds at the head of First's loop -/
def FRel (n : Nat) (A : Nat → Int) (p i : Value) : Prop := ∃ k : Nat, k + 1 ≤ n ∧ i = .int .i64 ((k : Int) + 1) ∧ p = .int .i64 (A k)
theorem first_yes (s : ByteArray) (n : Nat) (P : Int) (hn : Utf.refN (Utf.b s.data.toList 0) = n) (hP : Utf.refP s.data.toList = P) (hl : s.data.toList ≠ []) (hle : n ≤ s.size)
    (hp : pointB P = true) (he : ((encB P).toList == (s.extract 0 n).toList) = true) : firstP s = P ∧ firstN s = n := by
  have hp' : 0 ≤ P ∧ Utf.good P.toNat := by simpa [pointB] using hp
  have he' := eq_of_beq he
  rw [encB, S_toList, Lib.toList_data, Lib.extract_data] at he'
  have hok : Utf.refOk s.data.toList := by
    unfold Utf.refOk
    rw [hn, hP]
    refine ⟨by rw [← Lib.size_eq]; exact hle, hp'.1, hp'.2, by simpa using he'⟩
  unfold firstP firstN Utf.first
  rw [if_pos ⟨hl, hok⟩]
  exact ⟨hP, by rw [hn]⟩
theorem first_no (s : ByteArray) (n : Nat) (P : Int) (hn : Utf.refN (Utf.b s.data.toList 0) = n) (hP : Utf.refP s.data.toList = P)
    (h : pointB P = false ∨ ((encB P).toList == (s.extract 0 n).toList) = false) : firstP s = 0 ∧ firstN s = 0 := by
  have hno : ¬ Utf.refOk s.data.toList := by
    unfold Utf.refOk
    rw [hn, hP]
    rintro ⟨_, h1, h2, h3⟩
    rcases h with h | h
    · have : pointB P = true := by simp [pointB, h1, h2]
      rw [this] at h; cases h
    · rw [encB, S_toList, Lib.toList_data, Lib.extract_data] at h
      rw [h3] at h
      simp at h
  unfold firstP firstN Utf.first
  rw [if_neg (fun h => hno h.2)]
  exact ⟨rfl, rfl⟩
set_option maxRecDepth 100000 in
set_option maxHeartbeats 1000000 in
theorem first_w1 (s : ByteArray) (w : World) (x0 : UInt8) (A : Nat → Int) (_hs : s.size ≤ 140737488355328) (h1 : 0 < s.size) (hne : s.toList.isEmpty = false) (h0 : (0 : Int) < s.size) (hx0 : s[0] = x0)
    (hbd : ∀ k, k ≤ 3 → -1000000 ≤ A k ∧ A k ≤ 100000000) (hA0 : A 0 = (x0.toNat : Int) - (0 : Nat)) (hAs : ∀ k, ∀ h : k + 1 < s.size, A (k + 1) = A k * 64 + (s[k + 1].toNat : Int) - 128)
    (hP : Utf.refP s.data.toList = A 0) (hn : Utf.refN (Utf.b s.data.toList 0) = 1) (hlne : s.data.toList ≠ []) (hle : 1 ≤ s.size) (hc2 : x0.toNat < 192) :
    Calls Tryz.prog 73 #[.string s] w fun e w' => e = .returned (.tuple #[.int .i64 (firstP s), .int .i64 (firstN s)]) ∧ Below w.heap.size w w' := by
    have hx := x0.toNat_lt
    have HA0 := Lib.hid hA0
    have HAs := Lib.hid hAs
    have HP := Lib.hid hP
    have HN := Lib.hid hn
    have HL := Lib.hid hlne
    clear hA0 hAs hP hn hlne
    have q0 : decide ((s.size : Int) < 1) = false := by simp; omega
    have q1 : decide ((240 : Int) ≤ (x0.toNat : Int)) = false := by simp; omega
    have q2 : decide ((224 : Int) ≤ (x0.toNat : Int)) = false := by simp; omega
    have q3 : decide ((192 : Int) ≤ (x0.toNat : Int)) = false := by simp; omega
    go_enter Tryz.func73, Tryz.ntmps73
    go_wp2_with fail
    go_quiet (fail)
    go_wp2_with fail
    go_loop [5, 6] (fun p i => FRel 1 A p i) (fun _ i => (4 - intOf i).toNat)
    case atStart => exact ⟨0, by omega, rfl, by rw [HA0.out]; rfl⟩
    case round =>
      obtain ⟨k, hk, rfl, rfl⟩ := hrel
      have hb := hbd k (by omega)
      by_cases hlt : k + 1 < 1
      · exact absurd hlt (by omega)
      · obtain rfl : k = 0 := by omega
        by_cases hp : pointB (A 0) = true
        · go_wp2_with fail
          go_region_with (first | (go_at_call 87; refine (point_t _ _ hp).mono ?_; rintro e w' ⟨rfl, rfl⟩) | (go_at_call 88; refine (bytes_any _ _ hp).mono ?_; rintro e w' ⟨rfl, hbel⟩))
          go_wp2_with fail
          all_goals
            go_ret2
            refine ⟨?_, (below_drewN (Below.refl _ _) _).trans hbel⟩
            rcases Bool.eq_false_or_eq_true (!((encB (A 0)).toList == (s.extract 0 1).toList)) with he | he
            · first
                | (rw [(first_no s 1 (A 0) HN.out HP.out (.inr (by simpa using he))).1, (first_no s 1 (A 0) HN.out HP.out (.inr (by simpa using he))).2]; rfl)
                | simp_all
            · first
                | (rw [(first_yes s 1 (A 0) HN.out HP.out HL.out hle hp (by simpa using he)).1, (first_yes s 1 (A 0) HN.out HP.out HL.out hle hp (by simpa using he)).2]; rfl)
                | simp_all
        · have hp' : pointB (A 0) = false := by simpa using hp
          have HF := Lib.hid (first_no s 1 (A 0) HN.out HP.out (.inl hp'))
          clear hp
          go_wp2_with fail
          go_quiet ((go_at_call 87; exact quiet_same2 (point_f' _ _ hp')))
          go_wp2_with fail
          go_ret2
          rw [HF.out.1, HF.out.2]
          exact ⟨rfl, by first | exact below_drewN (Below.refl _ _) _ | exact below_drewN (below_drewN (Below.refl _ _) _) _⟩
set_option maxRecDepth 100000 in
set_option maxHeartbeats 1000000 in
theorem first_w2 (s : ByteArray) (w : World) (x0 : UInt8) (A : Nat → Int) (_hs : s.size ≤ 140737488355328) (h1 : 0 < s.size) (hne : s.toList.isEmpty = false) (_h0 : (0 : Int) < s.size) (hx0 : s[0] = x0)
    (hbd : ∀ k, k ≤ 3 → -1000000 ≤ A k ∧ A k ≤ 100000000) (hA0 : A 0 = (x0.toNat : Int) - (192 : Nat)) (hAs : ∀ k, ∀ h : k + 1 < s.size, A (k + 1) = A k * 64 + (s[k + 1].toNat : Int) - 128)
    (hP : Utf.refP s.data.toList = A 1) (hn : Utf.refN (Utf.b s.data.toList 0) = 2) (hlne : s.data.toList ≠ []) (hle : 2 ≤ s.size) (hc1 : 192 ≤ x0.toNat) (hc2 : x0.toNat < 224) :
    Calls Tryz.prog 73 #[.string s] w fun e w' => e = .returned (.tuple #[.int .i64 (firstP s), .int .i64 (firstN s)]) ∧ Below w.heap.size w w' := by
    have hx := x0.toNat_lt
    have HA0 := Lib.hid hA0
    have HAs := Lib.hid hAs
    have HP := Lib.hid hP
    have HN := Lib.hid hn
    have HL := Lib.hid hlne
    clear hA0 hAs hP hn hlne
    have q0 : decide ((s.size : Int) < 2) = false := by simp; omega
    have q1 : decide ((240 : Int) ≤ (x0.toNat : Int)) = false := by simp; omega
    have q2 : decide ((224 : Int) ≤ (x0.toNat : Int)) = false := by simp; omega
    have q3 : decide ((192 : Int) ≤ (x0.toNat : Int)) = true := by simp; omega
    go_enter Tryz.func73, Tryz.ntmps73
    go_wp2_with fail
    go_quiet (fail)
    go_wp2_with fail
    go_loop [5, 6] (fun p i => FRel 2 A p i) (fun _ i => (4 - intOf i).toNat)
    case atStart => exact ⟨0, by omega, rfl, by rw [HA0.out]; rfl⟩
    case round =>
      obtain ⟨k, hk, rfl, rfl⟩ := hrel
      have hb := hbd k (by omega)
      by_cases hlt : k + 1 < 2
      · obtain rfl : k = 0 := by omega
        have hlts : 1 < s.size := by omega
        have hv := s[1].toNat_lt
        have HE : Hid (A 1 = A 0 * 64 + (s[1].toNat : Int) - 128) := HAs.out 0 hlts
        clear hk hlt
        go_wp2_with fail
        go_round
        case rel => exact ⟨1, by omega, by go_num, (congrArg (Value.int .i64) HE.out).symm⟩
        case measure => simp [intOf]
      · obtain rfl : k = 1 := by omega
        by_cases hp : pointB (A 1) = true
        · go_wp2_with fail
          go_region_with (first | (go_at_call 87; refine (point_t _ _ hp).mono ?_; rintro e w' ⟨rfl, rfl⟩) | (go_at_call 88; refine (bytes_any _ _ hp).mono ?_; rintro e w' ⟨rfl, hbel⟩))
          go_wp2_with fail
          all_goals
            go_ret2
            refine ⟨?_, (below_drewN (Below.refl _ _) _).trans hbel⟩
            rcases Bool.eq_false_or_eq_true (!((encB (A 1)).toList == (s.extract 0 2).toList)) with he | he
            · first
                | (rw [(first_no s 2 (A 1) HN.out HP.out (.inr (by simpa using he))).1, (first_no s 2 (A 1) HN.out HP.out (.inr (by simpa using he))).2]; rfl)
                | simp_all
            · first
                | (rw [(first_yes s 2 (A 1) HN.out HP.out HL.out hle hp (by simpa using he)).1, (first_yes s 2 (A 1) HN.out HP.out HL.out hle hp (by simpa using he)).2]; rfl)
                | simp_all
        · have hp' : pointB (A 1) = false := by simpa using hp
          have HF := Lib.hid (first_no s 2 (A 1) HN.out HP.out (.inl hp'))
          clear hp
          go_wp2_with fail
          go_quiet ((go_at_call 87; exact quiet_same2 (point_f' _ _ hp')))
          go_wp2_with fail
          go_ret2
          rw [HF.out.1, HF.out.2]
          exact ⟨rfl, by first | exact below_drewN (Below.refl _ _) _ | exact below_drewN (below_drewN (Below.refl _ _) _) _⟩
set_option maxRecDepth 100000 in
set_option maxHeartbeats 1000000 in
theorem first_w3 (s : ByteArray) (w : World) (x0 : UInt8) (A : Nat → Int) (_hs : s.size ≤ 140737488355328) (h1 : 0 < s.size) (hne : s.toList.isEmpty = false) (_h0 : (0 : Int) < s.size) (hx0 : s[0] = x0)
    (hbd : ∀ k, k ≤ 3 → -1000000 ≤ A k ∧ A k ≤ 100000000) (hA0 : A 0 = (x0.toNat : Int) - (224 : Nat)) (hAs : ∀ k, ∀ h : k + 1 < s.size, A (k + 1) = A k * 64 + (s[k + 1].toNat : Int) - 128)
    (hP : Utf.refP s.data.toList = A 2) (hn : Utf.refN (Utf.b s.data.toList 0) = 3) (hlne : s.data.toList ≠ []) (hle : 3 ≤ s.size) (hc1 : 224 ≤ x0.toNat) (hc2 : x0.toNat < 240) :
    Calls Tryz.prog 73 #[.string s] w fun e w' => e = .returned (.tuple #[.int .i64 (firstP s), .int .i64 (firstN s)]) ∧ Below w.heap.size w w' := by
    have hx := x0.toNat_lt
    have HA0 := Lib.hid hA0
    have HAs := Lib.hid hAs
    have HP := Lib.hid hP
    have HN := Lib.hid hn
    have HL := Lib.hid hlne
    clear hA0 hAs hP hn hlne
    have q0 : decide ((s.size : Int) < 3) = false := by simp; omega
    have q1 : decide ((240 : Int) ≤ (x0.toNat : Int)) = false := by simp; omega
    have q2 : decide ((224 : Int) ≤ (x0.toNat : Int)) = true := by simp; omega
    go_enter Tryz.func73, Tryz.ntmps73
    go_wp2_with fail
    go_quiet (fail)
    go_wp2_with fail
    go_loop [5, 6] (fun p i => FRel 3 A p i) (fun _ i => (4 - intOf i).toNat)
    case atStart => exact ⟨0, by omega, rfl, by rw [HA0.out]; rfl⟩
    case round =>
      obtain ⟨k, hk, rfl, rfl⟩ := hrel
      have hb := hbd k (by omega)
      by_cases hlt : k + 1 < 3
      · have hlts : k + 1 < s.size := by omega
        have hv := s[k + 1].toNat_lt
        have HE := Lib.hid (HAs.out k hlts)
        go_wp2_with fail
        go_round
        case rel => exact ⟨k + 1, by omega, by go_num, (congrArg (Value.int .i64) HE.out).symm⟩
        case measure => simp [intOf]; omega
      · obtain rfl : k = 2 := by omega
        by_cases hp : pointB (A 2) = true
        · go_wp2_with fail
          go_region_with (first | (go_at_call 87; refine (point_t _ _ hp).mono ?_; rintro e w' ⟨rfl, rfl⟩) | (go_at_call 88; refine (bytes_any _ _ hp).mono ?_; rintro e w' ⟨rfl, hbel⟩))
          go_wp2_with fail
          all_goals
            go_ret2
            refine ⟨?_, (below_drewN (Below.refl _ _) _).trans hbel⟩
            rcases Bool.eq_false_or_eq_true (!((encB (A 2)).toList == (s.extract 0 3).toList)) with he | he
            · first
                | (rw [(first_no s 3 (A 2) HN.out HP.out (.inr (by simpa using he))).1, (first_no s 3 (A 2) HN.out HP.out (.inr (by simpa using he))).2]; rfl)
                | simp_all
            · first
                | (rw [(first_yes s 3 (A 2) HN.out HP.out HL.out hle hp (by simpa using he)).1, (first_yes s 3 (A 2) HN.out HP.out HL.out hle hp (by simpa using he)).2]; rfl)
                | simp_all
        · have hp' : pointB (A 2) = false := by simpa using hp
          have HF := Lib.hid (first_no s 3 (A 2) HN.out HP.out (.inl hp'))
          clear hp
          go_wp2_with fail
          go_quiet ((go_at_call 87; exact quiet_same2 (point_f' _ _ hp')))
          go_wp2_with fail
          go_ret2
          rw [HF.out.1, HF.out.2]
          exact ⟨rfl, by first | exact below_drewN (Below.refl _ _) _ | exact below_drewN (below_drewN (Below.refl _ _) _) _⟩
set_option maxRecDepth 100000 in
set_option maxHeartbeats 1000000 in
theorem first_w4 (s : ByteArray) (w : World) (x0 : UInt8) (A : Nat → Int) (_hs : s.size ≤ 140737488355328) (h1 : 0 < s.size) (hne : s.toList.isEmpty = false) (_h0 : (0 : Int) < s.size) (hx0 : s[0] = x0)
    (hbd : ∀ k, k ≤ 3 → -1000000 ≤ A k ∧ A k ≤ 100000000) (hA0 : A 0 = (x0.toNat : Int) - (240 : Nat)) (hAs : ∀ k, ∀ h : k + 1 < s.size, A (k + 1) = A k * 64 + (s[k + 1].toNat : Int) - 128)
    (hP : Utf.refP s.data.toList = A 3) (hn : Utf.refN (Utf.b s.data.toList 0) = 4) (hlne : s.data.toList ≠ []) (hle : 4 ≤ s.size) (hc1 : 240 ≤ x0.toNat) :
    Calls Tryz.prog 73 #[.string s] w fun e w' => e = .returned (.tuple #[.int .i64 (firstP s), .int .i64 (firstN s)]) ∧ Below w.heap.size w w' := by
    have hx := x0.toNat_lt
    have HA0 := Lib.hid hA0
    have HAs := Lib.hid hAs
    have HP := Lib.hid hP
    have HN := Lib.hid hn
    have HL := Lib.hid hlne
    clear hA0 hAs hP hn hlne
    have q0 : decide ((s.size : Int) < 4) = false := by simp; omega
    have q1 : decide ((240 : Int) ≤ (x0.toNat : Int)) = true := by simp; omega
    go_enter Tryz.func73, Tryz.ntmps73
    go_wp2_with fail
    go_quiet (fail)
    go_wp2_with fail
    go_loop [5, 6] (fun p i => FRel 4 A p i) (fun _ i => (4 - intOf i).toNat)
    case atStart => exact ⟨0, by omega, rfl, by rw [HA0.out]; rfl⟩
    case round =>
      obtain ⟨k, hk, rfl, rfl⟩ := hrel
      have hb := hbd k (by omega)
      by_cases hlt : k + 1 < 4
      · have hlts : k + 1 < s.size := by omega
        have hv := s[k + 1].toNat_lt
        have HE := Lib.hid (HAs.out k hlts)
        go_wp2_with fail
        go_round
        case rel => exact ⟨k + 1, by omega, by go_num, (congrArg (Value.int .i64) HE.out).symm⟩
        case measure => simp [intOf]; omega
      · obtain rfl : k = 3 := by omega
        by_cases hp : pointB (A 3) = true
        · go_wp2_with fail
          go_region_with (first | (go_at_call 87; refine (point_t _ _ hp).mono ?_; rintro e w' ⟨rfl, rfl⟩) | (go_at_call 88; refine (bytes_any _ _ hp).mono ?_; rintro e w' ⟨rfl, hbel⟩))
          go_wp2_with fail
          all_goals
            go_ret2
            refine ⟨?_, (below_drewN (Below.refl _ _) _).trans hbel⟩
            rcases Bool.eq_false_or_eq_true (!((encB (A 3)).toList == (s.extract 0 4).toList)) with he | he
            · first
                | (rw [(first_no s 4 (A 3) HN.out HP.out (.inr (by simpa using he))).1, (first_no s 4 (A 3) HN.out HP.out (.inr (by simpa using he))).2]; rfl)
                | simp_all
            · first
                | (rw [(first_yes s 4 (A 3) HN.out HP.out HL.out hle hp (by simpa using he)).1, (first_yes s 4 (A 3) HN.out HP.out HL.out hle hp (by simpa using he)).2]; rfl)
                | simp_all
        · have hp' : pointB (A 3) = false := by simpa using hp
          have HF := Lib.hid (first_no s 4 (A 3) HN.out HP.out (.inl hp'))
          clear hp
          go_wp2_with fail
          go_quiet ((go_at_call 87; exact quiet_same2 (point_f' _ _ hp')))
          go_wp2_with fail
          go_ret2
          rw [HF.out.1, HF.out.2]
          exact ⟨rfl, by first | exact below_drewN (Below.refl _ _) _ | exact below_drewN (below_drewN (Below.refl _ _) _) _⟩
set_option maxRecDepth 100000 in
set_option maxHeartbeats 1000000 in
theorem first_any (s : ByteArray) (w : World) (hs : s.size ≤ 140737488355328) :
    Calls Tryz.prog 73 #[.string s] w fun e w' => e = .returned (.tuple #[.int .i64 (firstP s), .int .i64 (firstN s)]) ∧ Below w.heap.size w w' := by
  by_cases h1 : 0 < s.size
  case neg =>
    have hl : s.data.toList = [] := by
      apply List.eq_nil_of_length_eq_zero; simpa using (by omega : s.size = 0)
    have hne : s.toList.isEmpty = true := by rw [Lib.toList_data, hl]; rfl
    have e1 : firstP s = 0 := by unfold firstP; rw [hl]; rfl
    have e2 : firstN s = 0 := by unfold firstN; rw [hl]; rfl
    rw [e1, e2]
    clear e1 e2
    go_enter Tryz.func73, Tryz.ntmps73
    go_wp2
    go_ret2
    exact ⟨rfl, Below.refl _ _⟩
  have hlne : s.data.toList ≠ [] := by
    intro h
    have := congrArg List.length h
    rw [← Lib.size_eq, List.length_nil] at this; omega
  have hne : s.toList.isEmpty = false := by
    rw [Lib.toList_data]
    cases h : s.data.toList with
    | nil => exact absurd h hlne
    | cons _ _ => rfl
  have h0 : (0 : Int) < s.size := by omega
  have hb0 := b_at s 0 h1
  obtain ⟨x0, hx0⟩ : ∃ x0, s[0] = x0 := ⟨_, rfl⟩
  rw [hx0] at hb0
  have hx := x0.toNat_lt
  obtain ⟨n, B, hcase⟩ : ∃ n B : Nat, (x0.toNat < 192 ∧ n = 1 ∧ B = 0) ∨ (192 ≤ x0.toNat ∧ x0.toNat < 224 ∧ n = 2 ∧ B = 192) ∨ (224 ≤ x0.toNat ∧ x0.toNat < 240 ∧ n = 3 ∧ B = 224) ∨ (240 ≤ x0.toNat ∧ n = 4 ∧ B = 240) := by
    by_cases c1 : x0.toNat < 192
    · exact ⟨1, 0, .inl ⟨c1, rfl, rfl⟩⟩
    by_cases c2 : x0.toNat < 224
    · exact ⟨2, 192, .inr (.inl ⟨by omega, c2, rfl, rfl⟩)⟩
    by_cases c3 : x0.toNat < 240
    · exact ⟨3, 224, .inr (.inr (.inl ⟨by omega, c3, rfl, rfl⟩))⟩
    · exact ⟨4, 240, .inr (.inr (.inr ⟨by omega, rfl, rfl⟩))⟩
  have hn : Utf.refN (Utf.b s.data.toList 0) = n := by
    rw [hb0]; unfold Utf.refN
    rcases hcase with ⟨_, rfl, rfl⟩ | ⟨_, _, rfl, rfl⟩ | ⟨_, _, rfl, rfl⟩ | ⟨_, rfl, rfl⟩
    · rw [if_neg (by omega), if_neg (by omega), if_neg (by omega)]
    · rw [if_neg (by omega), if_neg (by omega), if_pos (by omega)]
    · rw [if_neg (by omega), if_pos (by omega)]
    · rw [if_pos (by omega)]
  have hB : Utf.refB (Utf.b s.data.toList 0) = B := by
    rw [hb0]; unfold Utf.refB
    rcases hcase with ⟨_, rfl, rfl⟩ | ⟨_, _, rfl, rfl⟩ | ⟨_, _, rfl, rfl⟩ | ⟨_, rfl, rfl⟩
    · rw [if_neg (by omega), if_neg (by omega), if_neg (by omega)]
    · rw [if_neg (by omega), if_neg (by omega), if_pos (by omega)]
    · rw [if_neg (by omega), if_pos (by omega)]
    · rw [if_pos (by omega)]
  have hP : Utf.refP s.data.toList = Utf.acc s.data.toList ((x0.toNat : Int) - B) (n - 1) := by
    unfold Utf.refP; rw [hn, hB, hb0]
  have hn4 : 1 ≤ n ∧ n ≤ 4 := by omega
  have hBx : B ≤ x0.toNat := by omega
  by_cases hlen : s.size < n
  · have hno : ¬ Utf.refOk s.data.toList := by
      unfold Utf.refOk; rw [hn]; simp; intro h; omega
    have e1 : firstP s = 0 := by unfold firstP Utf.first; rw [if_neg (fun h => hno h.2)]
    have e2 : firstN s = 0 := by unfold firstN Utf.first; rw [if_neg (fun h => hno h.2)]; rfl
    rw [e1, e2]
    clear e1 e2 hno hP hn hB hb0 hlne
    rcases hcase with ⟨hc1, rfl, rfl⟩ | ⟨hc1, hc2, rfl, rfl⟩ | ⟨hc1, hc2, rfl, rfl⟩ | ⟨hc1, rfl, rfl⟩
    · omega
    all_goals
      go_enter Tryz.func73, Tryz.ntmps73
      go_wp2_with fail
      go_quiet (fail)
      go_wp2_with fail
      go_ret2
      exact ⟨rfl, below_drewN (Below.refl _ _) _⟩
  · have hle : n ≤ s.size := by omega
    clear hlen
    have hbd := acc_bound s.data.toList ((x0.toNat : Int) - B) (by omega) (by omega)
    obtain ⟨A, hA⟩ : ∃ A, A = Utf.acc s.data.toList ((x0.toNat : Int) - B) := ⟨_, rfl⟩
    have hA0 : A 0 = (x0.toNat : Int) - B := by rw [hA]; rfl
    have hAs : ∀ k, ∀ h : k + 1 < s.size, A (k + 1) = A k * 64 + (s[k + 1].toNat : Int) - 128 := by
      intro k h; rw [hA]; simp only [Utf.acc]; rw [b_at s (k + 1) h]
    rw [← hA] at hP hbd
    rcases hcase with ⟨hc1, rfl, rfl⟩ | ⟨hc1, hc2, rfl, rfl⟩ | ⟨hc1, hc2, rfl, rfl⟩ | ⟨hc1, rfl, rfl⟩
    · exact first_w1 s w x0 A hs h1 hne h0 hx0 hbd hA0 hAs hP hn hlne hle hc1
    · exact first_w2 s w x0 A hs h1 hne h0 hx0 hbd hA0 hAs hP hn hlne hle hc1 hc2
    · exact first_w3 s w x0 A hs h1 hne h0 hx0 hbd hA0 hAs hP hn hlne hle hc1 hc2
    · exact first_w4 s w x0 A hs h1 hne h0 hx0 hbd hA0 hAs hP hn hlne hle hc1
end Go.Proofs.YtlhpgkaffbgkgaaGreatDoor
